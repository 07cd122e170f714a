/-
  THE SHELF: one is taken off the heap, one is put on it.
-/
import Derived.Test.YtkhalpmmdlppkaaShC
namespace Go.Proofs.Ytkhalpmmdlppkaa
set_option linter.unusedSimpArgs false
set_option linter.unusedVariables false
open Go.Vm

section
variable {S B : Vm.Id} {b z m : AV} {cap : Cap} {junk : List AV} {f : Vm.Id → Ky} {H : List Vm.Id} {σ : St}

theorem at_drop {H : List Vm.Id} {k : Nat} (h : k < H.length - 1) : at_ H.dropLast k = at_ H k := by
  have h2 : k < H.length := by omega
  simp [at_, List.getD, List.getElem?_dropLast, h, h2]
theorem drop_last {H : List Vm.Id} (h : H ≠ []) : H.dropLast ++ [at_ H (H.length - 1)] = H := by
  have hl : H.length - 1 < H.length := by have := List.length_pos_iff.2 h; omega
  rw [at_get hl, ← List.getLast_eq_getElem h]
  exact List.dropLast_concat_getLast h

theorem pop_ev {c : Nat} (Q : Hq σ S B b z m (.ge c) junk H f) (h0 : 0 < H.length) (hc : H.length ≤ c) :
    ∃ σ', ev (tab hsS) 134 [.ptr S 3] σ = some (.iface 127 (.ptr (at_ H (H.length - 1)) 0), σ') ∧ Hq σ' S B b z m (.ge c) (.ptr (at_ H (H.length - 1)) 0 :: junk) H.dropLast f ∧
      σ'.get (at_ H (H.length - 1)) = some (thc (f (at_ H (H.length - 1))) (-1)) ∧ Only σ σ' (fun q => q = S ∨ q = at_ H (H.length - 1)) := by
  have few := Q.few
  have hk : H.length - 1 < H.length := by omega
  have hlast := drop_last (H := H) (fun e => by simp [e] at h0)
  generalize hkk : H.length - 1 = k at *
  have hx := at_mem hk
  have gx := Q.ht k hk
  have hel : elemPtr 1 k (.sl B 0 H.length (.ge c) 1) = some (.ptr B k) := by rw [elemPtr_sl hk]; simp
  have hp := ptrs_part (H := H) (junk := junk) hk
  have xS : at_ H k ≠ S := fun e => Q.sh (e ▸ hx)
  have xB : at_ H k ≠ B := fun e => Q.bh (e ▸ hx)
  have hl : (H.length : Int) - 1 = (k : Int) := by omega
  have hss : ∀ ρ : Env, sliceSl 1 (.sl B 0 H.length (.ge c) 1) none (some (.t 20)) none ρ = (bndV (ρ 20) c).bind fun h => if h ≤ c then some (.sl B 0 h (.ge c) 1) else none := by
    intro ρ
    simp only [sliceSl, bnd, Arg.get, Cap.room, Cap.cut, bndV]
    simp
    rfl
  have hbv : bndV (.int .i64 (k : Int)) c = some k := by rw [bndV_nat (by omega) (by omega)]; rfl
  have hkc : k ≤ c := by omega
  have t1 : storeAt σ 1 (.ptr S 3) (.sl B 0 k (.ge c) 1) = some (σ.set S (some (.cells [b, z, m, .sl B 0 k (.ge c) 1]))) := by rw [store_one Q.hs (by simp) (by simp) rfl]; rfl
  have gx1 : (σ.set S (some (.cells [b, z, m, .sl B 0 k (.ge c) 1]))).get (at_ H k) = some (thc (f (at_ H k)) k) := by rw [get_set, if_neg xS]; exact gx
  have t2 : storeAt (σ.set S (some (.cells [b, z, m, .sl B 0 k (.ge c) 1]))) 1 (.ptr (at_ H k) 4) (.int .i64 (-1)) = some ((σ.set S (some (.cells [b, z, m, .sl B 0 k (.ge c) 1]))).set (at_ H k) (some (.cells (thc (f (at_ H k)) (-1))))) := by rw [store_one gx1 (by simp [thc]) (by simp) rfl]; rfl
  refine ⟨(σ.set S (some (.cells [b, z, m, .sl B 0 k (.ge c) 1]))).set (at_ H k) (some (.cells (thc (f (at_ H k)) (-1)))), ?_, ⟨?_, ?_, fun i hi => ?_, ?_, Q.sb, ?_, ?_, by simp; omega⟩, get_set_same _ _ _, ⟨rfl, rfl, fun q hq => ?_⟩⟩
  · have hs := Q.hs
    rw [ev_raw (tab134 hsS)]
    simp (disch := first | omega | (simp only [rkl]; omega)) only [rk1, rk2, rk3, rk4, rk5, Arg.get, ret1, AV.cells, AV.isCell, addOff, minmaxL, Cap.room, Cap.cut, cutI, isSt, resultOf, Function.comp_apply, Function.comp_def, beq_self_eq_true, if_true, if_false, ite_true, ite_false, reduceCtorEq, bne_self_eq_false, Option.some.injEq, Prod.mk.injEq, ↓reduceIte, Nat.reduceEqDiff, Nat.reduceAdd, Nat.reduceMul, Nat.reduceSub, Nat.reduceLeDiff, Nat.reduceLT, Int.reduceLT, Int.reduceLE, Int.reduceEq, Int.reduceAdd, Int.reduceSub, Int.reduceNeg, Int.reduceToNat, List.mapM_cons, List.mapM_nil, Option.pure_def, Option.bind_eq_bind, eq_self, decide_true, decide_false, code134, p134_1, p134_2, p134_3, p134_4, p134_5, p134_6, hs, hl, hel, Q.hb, hp, hss, hbv, hkc, t1, t2]
  · rw [get_set, if_neg xS.symm, get_set_same]; simp [hkk]
  · rw [get_set, if_neg xB.symm, get_set, if_neg Q.sb.symm, Q.hb]
    congr 1
    have : ptrs H = ptrs H.dropLast ++ [.ptr (at_ H k) 0] := by
      conv => lhs; rw [← hlast]
      simp [ptrs]
    rw [this]; simp
  · have hi' : i < k := by simpa [hkk] using hi
    rw [at_drop (by omega)]
    have e1 : at_ H i ≠ at_ H k := fun e => by have := at_inj Q.nd (by omega) hk e; omega
    rw [get_set, if_neg e1, get_set, if_neg (fun e : at_ H i = S => Q.sh (e ▸ at_mem (show i < H.length by omega)))]
    exact Q.ht i (by omega)
  · have := Q.nd
    rw [← hlast] at this
    exact (List.nodup_append.1 this).1
  · exact fun h => Q.sh (List.dropLast_subset _ h)
  · exact fun h => Q.bh (List.dropLast_subset _ h)
  · have c1 : q ≠ S := fun e => hq (.inl e)
    have c2 : q ≠ at_ H k := fun e => hq (.inr e)
    simp [St.set, c1, c2]

abbrev tPop : List (TypeId × (Option (Bool × Nat) × FuncId)) := [(131, (none, 134))]
abbrev tPush : List (TypeId × (Option (Bool × Nat) × FuncId)) := [(131, (none, 135))]

theorem inv_none {E : CallH} {tbl : List (TypeId × (Option (Bool × Nat) × FuncId))} {f : FuncId} (ht : tbl.lookup 131 = some (none, f)) (v : AV) (xs : List AV) : invV E σ tbl (.iface 131 v) xs = E f (v :: xs) σ := by
  simp only [invV, ht, recv]
  rfl

theorem remove_ev {c i : Nat} (Q : Hq σ S B b z m (.ge c) junk H f) (hi : i < H.length) (hc : H.length ≤ c) :
    ∃ σ' x, ev (tab hsS) 81 [.iface 131 (.ptr S 3), .int .i64 i] σ = some (x, σ') ∧ Hq σ' S B b z m (.ge c) (.ptr (at_ H i) 0 :: junk) (cutL ltK f H i).dropLast f ∧
      σ'.get (at_ H i) = some (thc (f (at_ H i)) (-1)) ∧ Only σ σ' (fun q => q = S ∨ q = B ∨ q ∈ H) := by
  have few := Q.few
  have el := inv_len Q
  have hp := cutL_perm (lt := ltK) (f := f) hi
  have hlen := hp.length_eq
  have hlast := cutL_last (lt := ltK) (f := f) hi
  have hl : (H.length : Int) - 1 = ((H.length - 1 : Nat) : Int) := by omega
  have fin : ∀ {σ1 : St}, Hq σ1 S B b z m (.ge c) junk (cutL ltK f H i) f → Only σ σ1 (fun q => q = B ∨ q ∈ H) → ∃ σ' , invV (ev (tab hsS)) σ1 tPop (.iface 131 (.ptr S 3)) [] = some (.iface 127 (.ptr (at_ H i) 0), σ') ∧
      Hq σ' S B b z m (.ge c) (.ptr (at_ H i) 0 :: junk) (cutL ltK f H i).dropLast f ∧ σ'.get (at_ H i) = some (thc (f (at_ H i)) (-1)) ∧ Only σ σ' (fun q => q = S ∨ q = B ∨ q ∈ H) := by
    intro σ1 Q1 o1
    obtain ⟨σ2, e2, Q2, g2, o2⟩ := pop_ev Q1 (by omega) (by omega)
    rw [hlen, hlast] at e2 Q2 g2 o2
    refine ⟨σ2, (inv_none rfl _ _).trans e2, Q2, g2, (o1.weak fun q hq => .inr hq).trans (o2.weak fun q hq => ?_)⟩
    rcases hq with hq | hq
    · exact .inl hq
    · exact .inr (.inr (hq ▸ at_mem hi))
  rw [ev_raw (tab81 hsS)]
  by_cases hni : H.length - 1 = i
  · have hcut : cutL ltK f H i = H := by unfold cutL; rw [if_pos hni]
    obtain ⟨σ', e3, r1, r2, r3⟩ := fin (σ1 := σ) (by rw [hcut]; exact Q) (.refl _ _)
    have hne : ((H.length - 1 : Nat) : Int) = (i : Int) := by omega
    simp (disch := first | omega | (simp only [rkl]; omega)) only [rk1, rk2, rk3, rk4, rk5, Arg.get, ret1, AV.cells, AV.isCell, addOff, minmaxL, Cap.room, Cap.cut, cutI, isSt, resultOf, Function.comp_apply, Function.comp_def, beq_self_eq_true, if_true, if_false, ite_true, ite_false, reduceCtorEq, bne_self_eq_false, Option.some.injEq, Prod.mk.injEq, ↓reduceIte, Nat.reduceEqDiff, Nat.reduceAdd, Nat.reduceMul, Nat.reduceSub, Nat.reduceLeDiff, Nat.reduceLT, Int.reduceLT, Int.reduceLE, Int.reduceEq, Int.reduceAdd, Int.reduceSub, Int.reduceNeg, Int.reduceToNat, List.mapM_cons, List.mapM_nil, Option.pure_def, Option.bind_eq_bind, eq_self, decide_true, decide_false, code81, p81_1, p81_2, p81_3, p81_7, ev_invoke, el, hl, hne, e3]
    exact ⟨_, _, ⟨rfl, rfl⟩, r1, r2, r3⟩
  · have hcut : cutL ltK f H i = fixL ltK f (sw H i (H.length - 1)) i (H.length - 1) := by unfold cutL; rw [if_neg hni]
    have hne : ¬ (((H.length - 1 : Nat) : Int) = (i : Int)) := by omega
    obtain ⟨σ1, e1, Q1, o1⟩ := inv_swap Q hi (show H.length - 1 < H.length by omega) (by omega)
    obtain ⟨σ2, e2, Q2, o2⟩ := down_ev Q1 (i := i) (n := H.length - 1) (by omega) (by simp)
    have hsp := sw_perm (H := H) (i := i) (j := H.length - 1) hi (by omega)
    have hdp := downL_perm (lt := ltK) (f := f) (H.length - 1 - i) (H := sw H i (H.length - 1)) (i := i) rfl (by simp) (by simpa using hi)
    have o12 : Only σ σ2 (fun q => q = B ∨ q ∈ H) := o1.trans (o2.weak fun q hq => hq.imp id fun h => hsp.mem_iff.1 h)
    by_cases h : (downL ltK f (sw H i (H.length - 1)) i (H.length - 1)).2 > i
    · rw [decide_eq_true h] at e2
      have hf : fixL ltK f (sw H i (H.length - 1)) i (H.length - 1) = (downL ltK f (sw H i (H.length - 1)) i (H.length - 1)).1 := by unfold fixL; rw [if_pos h]
      obtain ⟨σ', e3, r1, r2, r3⟩ := fin (σ1 := σ2) (by rw [hcut, hf]; exact Q2) o12
      simp (disch := first | omega | (simp only [rkl]; omega)) only [rk1, rk2, rk3, rk4, rk5, Arg.get, ret1, AV.cells, AV.isCell, addOff, minmaxL, Cap.room, Cap.cut, cutI, isSt, resultOf, Function.comp_apply, Function.comp_def, beq_self_eq_true, if_true, if_false, ite_true, ite_false, reduceCtorEq, bne_self_eq_false, Option.some.injEq, Prod.mk.injEq, ↓reduceIte, Nat.reduceEqDiff, Nat.reduceAdd, Nat.reduceMul, Nat.reduceSub, Nat.reduceLeDiff, Nat.reduceLT, Int.reduceLT, Int.reduceLE, Int.reduceEq, Int.reduceAdd, Int.reduceSub, Int.reduceNeg, Int.reduceToNat, List.mapM_cons, List.mapM_nil, Option.pure_def, Option.bind_eq_bind, eq_self, decide_true, decide_false, code81, p81_1, p81_2, p81_3, p81_4, p81_5, p81_7, ev_invoke, el, hl, hne, e1, e2, e3]
      exact ⟨_, _, ⟨rfl, rfl⟩, r1, r2, r3⟩
    · rw [decide_eq_false h] at e2
      have hf : fixL ltK f (sw H i (H.length - 1)) i (H.length - 1) = upL ltK f (downL ltK f (sw H i (H.length - 1)) i (H.length - 1)).1 i := by unfold fixL; rw [if_neg h]
      obtain ⟨σ3, e4, Q3, o3⟩ := up_ev Q2 (j := i) (by rw [hdp.length_eq]; simpa using hi)
      have o13 : Only σ σ3 (fun q => q = B ∨ q ∈ H) := o12.trans (o3.weak fun q hq => hq.imp id fun h => hsp.mem_iff.1 (hdp.mem_iff.1 h))
      obtain ⟨σ', e3, r1, r2, r3⟩ := fin (σ1 := σ3) (by rw [hcut, hf]; exact Q3) o13
      simp (disch := first | omega | (simp only [rkl]; omega)) only [rk1, rk2, rk3, rk4, rk5, Arg.get, ret1, AV.cells, AV.isCell, addOff, minmaxL, Cap.room, Cap.cut, cutI, isSt, resultOf, Function.comp_apply, Function.comp_def, beq_self_eq_true, if_true, if_false, ite_true, ite_false, reduceCtorEq, bne_self_eq_false, Option.some.injEq, Prod.mk.injEq, ↓reduceIte, Nat.reduceEqDiff, Nat.reduceAdd, Nat.reduceMul, Nat.reduceSub, Nat.reduceLeDiff, Nat.reduceLT, Int.reduceLT, Int.reduceLE, Int.reduceEq, Int.reduceAdd, Int.reduceSub, Int.reduceNeg, Int.reduceToNat, List.mapM_cons, List.mapM_nil, Option.pure_def, Option.bind_eq_bind, eq_self, decide_true, decide_false, code81, p81_1, p81_2, p81_3, p81_4, p81_5, p81_6, p81_7, ev_invoke, el, hl, hne, e1, e2, e4, e3]
      exact ⟨_, _, ⟨rfl, rfl⟩, r1, r2, r3⟩
end
end Go.Proofs.Ytkhalpmmdlppkaa
