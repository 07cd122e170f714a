/-
  THE SHELF: Push, Fix and Remove, on a shelf's heap.
-/
import Derived.Test.YtkhalpmmdlppkaaShE
namespace Go.Proofs.Ytkhalpmmdlppkaa
set_option linter.unusedSimpArgs false
set_option linter.unusedVariables false
open Go.Vm

section
variable {S : Vm.Id} {b z m : AV} {f : Vm.Id → Ky} {σ : St} {H : List Vm.Id} {cc : AV}

theorem Hc.hs (h : Hc σ S b z m f H cc) : σ.get S = some [b, z, m, cc] := by cases h with | nil hs => exact hs | sl Q => exact Q.hs
theorem Hc.len (h : Hc σ S b z m f H cc) (s : St) : lenIn s .sl cc = some H.length := by cases h <;> rfl
theorem Hc.ht (h : Hc σ S b z m f H cc) : ∀ k, k < H.length → σ.get (at_ H k) = some (thc (f (at_ H k)) k) := by cases h with | nil => simp | sl Q => exact Q.ht
theorem Hc.nd (h : Hc σ S b z m f H cc) : H.Nodup := by cases h with | nil => simp | sl Q => exact Q.nd
theorem Hc.sh (h : Hc σ S b z m f H cc) : S ∉ H := by cases h with | nil => simp | sl Q => exact Q.sh
theorem Hc.sb (h : Hc σ S b z m f H cc) : refId cc ≠ some S := by cases h with | nil => simp [refId] | sl Q => intro e; simp [refId] at e; exact Q.sb e.symm
theorem Hc.bh (h : Hc σ S b z m f H cc) : ∀ y ∈ H, refId cc ≠ some y := by cases h with | nil => simp | sl Q => intro y hy e; simp [refId] at e; exact Q.bh (e ▸ hy)
theorem Hc.few (h : Hc σ S b z m f H cc) : H.length < 2 ^ 40 := by cases h with | nil => simp | sl Q => exact Q.few
theorem Hc.lb (h : Hc σ S b z m f H cc) : ∀ B, refId cc = some B → B.o < σ.next := by cases h with | nil => simp [refId] | sl Q _ _ hB => intro B e; simp [refId] at e; exact e ▸ hB

theorem push_ev (h : Hc σ S b z m f H cc) {x : Vm.Id} {a : Int} (hx : σ.get x = some (thc (f x) a)) (xH : x ∉ H) (xS : x ≠ S) (xB : refId cc ≠ some x) (lx : x.o < σ.next) (lS : S.o < σ.next) (lH : ∀ y ∈ H, y.o < σ.next) (few : H.length + 1 < 2 ^ 40) :
    ∃ σ' cc', ev (tab hsS) 76 [.iface 131 (.ptr S 3), .iface 127 (.ptr x 0)] σ = some (.tup [], σ') ∧ Hc σ' S b z m f (upL ltK f (H ++ [x]) H.length) cc' ∧ Frm σ σ' (fun q => q = S ∨ q = x ∨ q ∈ H ∨ refId cc = some q) ∧
      (∀ B, refId cc' = some B → refId cc = some B ∨ σ.next ≤ B.o) := by
  obtain ⟨σ1, B, c, junk, e1, P⟩ := push135 h hx xH xS xB lx lS lH few
  have el := inv_len P.Q
  obtain ⟨σ2, e2, Q2, o2⟩ := up_ev P.Q (j := H.length) (by simp)
  have hl : ((H ++ [x]).length : Int) - 1 = (H.length : Int) := by simp
  have hp := upL_perm (lt := ltK) (f := f) H.length (H := H ++ [x]) (by simp)
  have hll : (upL ltK f (H ++ [x]) H.length).length = (H ++ [x]).length := hp.length_eq
  refine ⟨σ2, .sl B 0 (upL ltK f (H ++ [x]) H.length).length (.ge c) 1, ?_, .sl Q2 (by rw [hll]; exact P.h1) (by rw [hll]; exact P.h2) (by rw [o2.next]; exact P.hB), P.fr.trans o2.frm fun q hq hF => ?_, fun B' e => ?_⟩
  · rw [ev_raw (tab76 hsS)]
    simp (disch := first | omega | (simp only [rkl]; omega)) only [rk1, rk2, rk3, rk4, rk5, Arg.get, ret1, AV.cells, AV.isCell, addOff, minmaxL, Cap.room, Cap.cut, cutI, isSt, resultOf, Function.comp_apply, Function.comp_def, beq_self_eq_true, if_true, if_false, ite_true, ite_false, reduceCtorEq, bne_self_eq_false, Option.some.injEq, Prod.mk.injEq, ↓reduceIte, Nat.reduceEqDiff, Nat.reduceAdd, Nat.reduceMul, Nat.reduceSub, Nat.reduceLeDiff, Nat.reduceLT, Int.reduceLT, Int.reduceLE, Int.reduceEq, Int.reduceAdd, Int.reduceSub, Int.reduceNeg, Int.reduceToNat, List.mapM_cons, List.mapM_nil, Option.pure_def, Option.bind_eq_bind, eq_self, decide_true, decide_false, code76, p76_1, p76_2, ev_invoke, e1, el, hl, e2]
  · rcases hF with rfl | hF
    · rcases P.where_ with hw | hw
      · exact .inr (.inr (.inr hw))
      · omega
    · rcases List.mem_append.1 hF with hF | hF
      · exact .inr (.inr (.inl hF))
      · simp at hF; exact .inr (.inl hF)
  · simp only [refId, Option.some.injEq] at e; subst e; exact P.where_

theorem fix80 (h : Hc σ S b z m f H cc) {i : Nat} (hi : i < H.length) :
    ∃ σ', ev (tab hsS) 80 [.iface 131 (.ptr S 3), .int .i64 i] σ = some (.tup [], σ') ∧ Hc σ' S b z m f (fixL ltK f H i H.length) cc ∧ Only σ σ' (fun q => q ∈ H ∨ refId cc = some q) := by
  cases h with
  | nil => simp at hi
  | sl Q h1 h2 hB =>
    rename_i B c junk
    obtain ⟨σ', e, Q', o⟩ := fix_ev Q hi
    have hl : (fixL ltK f H i H.length).length = H.length := (fixL_perm (Nat.le_refl _) hi).length_eq
    refine ⟨σ', e, ?_, o.weak fun q hq => hq.symm.imp id fun e => by rw [e]; rfl⟩
    have := Hc.sl Q' (by rw [hl]; exact h1) (by rw [hl]; exact h2) (by rw [o.next]; exact hB)
    rw [hl] at this
    exact this

theorem remove81 (h : Hc σ S b z m f H cc) {i : Nat} (hi : i < H.length) :
    ∃ σ' x cc', ev (tab hsS) 81 [.iface 131 (.ptr S 3), .int .i64 i] σ = some (x, σ') ∧ Hc σ' S b z m f (cutL ltK f H i).dropLast cc' ∧ σ'.get (at_ H i) = some (thc (f (at_ H i)) (-1)) ∧
      Only σ σ' (fun q => q = S ∨ q ∈ H ∨ refId cc = some q) ∧ refId cc' = refId cc := by
  cases h with
  | nil => simp at hi
  | sl Q h1 h2 hB =>
    rename_i B c junk
    obtain ⟨σ', x, e, Q', g, o⟩ := remove_ev Q hi h1
    have hl : (cutL ltK f H i).length = H.length := (cutL_perm hi).length_eq
    refine ⟨σ', x, _, e, .sl Q' (by simp [hl]; omega) (by simp [hl]; omega) (by rw [o.next]; exact hB), g, o.weak fun q hq => ?_, rfl⟩
    rcases hq with hq | hq | hq
    · exact .inl hq
    · exact .inr (.inr (by rw [hq]; rfl))
    · exact .inr (.inl hq)
end
end Go.Proofs.Ytkhalpmmdlppkaa
