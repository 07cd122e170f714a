/-
  THE SHELF: Touch, Drop.
-/
import Derived.Test.YtkhalpmmdlppkaaQaB
namespace Go.Proofs.Ytkhalpmmdlppkaa
set_option linter.unusedSimpArgs false
set_option linter.unusedVariables false
open Go.Vm

def cRest : C := .seq (.draw d51_7) (.seq (.draw d51_8) (.seq (.ops p51_9) .ret))
theorem code51_eq : code51 = .seq (.ops p51_1) (.seq (.ops p51_2) (.seq (.seq (.ops p51_3) (.cond (.t 10) (.seq (.ops p51_4) .ret) .skip)) (.seq (.seq (.ops p51_5) (.cond (.t 15) (.draw d51_6) .skip)) cRest))) := rfl

theorem sq49_7 : drawSeq (tab hsS) d49_7 = true := rfl
theorem sq51_6 : drawSeq (tab hsS) d51_6 = true := rfl

theorem del_map {σ : St} {M : Vm.Id} {f : Vm.Id → Ky} {L : List Vm.Id} (hm : σ.heap M = some (.map (keysOf f L) (ptrs L))) {v u : Int} {j : Nat} (h : posOf (kf f) L v u = some j) :
    delV KT σ (.map M) (.agg [.int .u32 v, .int .u32 u]) = some (.tup [], σ.set M (some (.map (keysOf f (L.eraseIdx j)) (ptrs (L.eraseIdx j))))) := by
  have hf := findIn_kx (kf f) L v u
  have er : ∀ {α β : Type} (g : α → β) (l : List α) (i : Nat), (l.map g).eraseIdx i = (l.eraseIdx i).map g := by
    intro α β g l
    induction l with
    | nil => intro i; rfl
    | cons a l ih => intro i; cases i with
      | zero => rfl
      | succ i => simp [ih i]
  simp only [delV, hm]
  rw [show AV.agg [.int .u32 v, .int .u32 u] = kx v u from rfl]
  rw [show findIn KT (kx v u) (keysOf f L) = some (posOf (kf f) L v u) from hf, h]
  simp only [Option.bind_some, keysOf, ptrs, er]

theorem sum_erase {f : Vm.Id → Ky} : ∀ {L : List Vm.Id} {j : Nat} (hj : j < L.length), sumL f (L.eraseIdx j) = sumL f L - (f (at_ L j)).sz
  | x :: L, 0, _ => by simp [sumL, at_]; omega
  | x :: L, j + 1, hj => by
    have ih := sum_erase (f := f) (L := L) (j := j) (by simpa using hj)
    have e : at_ (x :: L) (j + 1) = at_ L j := by simp [at_]
    rw [e]
    simp only [sumL, List.eraseIdx_cons_succ, List.map_cons, List.sum_cons] at ih ⊢
    omega

theorem mem_erase {L : List Vm.Id} (nd : L.Nodup) {j : Nat} (hj : j < L.length) (y : Vm.Id) : y ∈ L.eraseIdx j ↔ y ∈ L ∧ y ≠ at_ L j := by
  rw [List.mem_eraseIdx_iff_getElem]
  constructor
  · rintro ⟨i, hi, hij, rfl⟩
    exact ⟨List.getElem_mem hi, fun e => hij (at_inj nd hi hj (by rw [at_get hi]; exact e))⟩
  · rintro ⟨hy, hne⟩
    obtain ⟨i, hi, rfl⟩ := List.getElem_of_mem hy
    exact ⟨i, hi, fun e => hne (by subst e; rw [at_get hi]), rfl⟩

section
variable {σ : St} {S M : Vm.Id} {bud : Int} {L H : List Vm.Id} {f : Vm.Id → Ky} {cc : AV} (R : Rep σ S M bud L H f cc)
include R

theorem touch_none {v u us : Int} (hp : posOf (kf f) L v u = none) : ∃ σ', ev (tab hsS) 49 [.ptr S 0, .agg [.int .u32 v, .int .u32 u], .int .i64 us] σ = some (.bool false, σ') ∧ Frm σ σ' (fun _ => False) := by
  have hz : newCells σ [.int .u32 v, .int .u32 u] = some (⟨σ.next, 0, 0⟩, σ.new [.int .u32 v, .int .u32 u]) := newCells_ok rfl
  have hk : (σ.new [.int .u32 v, .int .u32 u]).get ⟨σ.next, 0, 0⟩ = some [.int .u32 v, .int .u32 u] := by rw [get_new, if_pos rfl]
  obtain ⟨R2, e2, f2⟩ := R.look2 v u
  rw [lookP_none hp] at e2
  refine ⟨_, ?_, f2⟩
  rw [ev_raw (tab49 hsS)]
  simp (disch := first | omega | (simp only [rkl]; omega)) only [rk1, rk2, rk3, rk4, rk5, Arg.get, ret1, AV.cells, AV.isCell, addOff, minmaxL, Cap.room, Cap.cut, cutI, isSt, resultOf, Function.comp_apply, Function.comp_def, beq_self_eq_true, if_true, if_false, ite_true, ite_false, reduceCtorEq, bne_self_eq_false, Option.some.injEq, Prod.mk.injEq, ↓reduceIte, Nat.reduceEqDiff, Nat.reduceAdd, Nat.reduceMul, Nat.reduceSub, Nat.reduceLeDiff, Nat.reduceLT, Int.reduceLT, Int.reduceLE, Int.reduceEq, Int.reduceAdd, Int.reduceSub, Int.reduceNeg, Int.reduceToNat, List.mapM_cons, List.mapM_nil, Option.pure_def, Option.bind_eq_bind, eq_self, decide_true, decide_false, code49, p49_1, p49_2, p49_3, p49_4, hz, hk, e2]

/-- Where a thing stands in the heap. -/
def slotOf (H : List Vm.Id) (x : Vm.Id) : Option Nat := H.findIdx? (fun y => decide (y = x))
omit R in
theorem slot_some {H : List Vm.Id} {x : Vm.Id} {k : Nat} (h : slotOf H x = some k) : k < H.length ∧ at_ H k = x := by
  unfold slotOf at h
  rw [List.findIdx?_eq_some_iff_getElem] at h
  obtain ⟨hj, h1, _⟩ := h
  exact ⟨hj, by rw [at_get hj]; simpa using h1⟩
omit R in
theorem slot_none {H : List Vm.Id} {x : Vm.Id} (h : slotOf H x = none) : x ∉ H := by
  unfold slotOf at h
  rw [List.findIdx?_eq_none_iff] at h
  intro hx
  simpa using h x hx

def touchH (f : Vm.Id → Ky) (H : List Vm.Id) (x : Vm.Id) : List Vm.Id := match slotOf H x with | some k => fixL ltK f H k H.length | none => H

theorem touch_ok {v u us : Int} {j : Nat} (hp : posOf (kf f) L v u = some j) : ∃ σ', ev (tab hsS) 49 [.ptr S 0, .agg [.int .u32 v, .int .u32 u], .int .i64 us] σ = some (.bool true, σ') ∧
    Rep σ' S M bud L (touchH (upd f (at_ L j) ⟨(f (at_ L j)).v, (f (at_ L j)).u, (f (at_ L j)).sz, us⟩) H (at_ L j)) (upd f (at_ L j) ⟨(f (at_ L j)).v, (f (at_ L j)).u, (f (at_ L j)).sz, us⟩) cc ∧ Frm σ σ' (Fp S M L cc) := by
  have hz : newCells σ [.int .u32 v, .int .u32 u] = some (⟨σ.next, 0, 0⟩, σ.new [.int .u32 v, .int .u32 u]) := newCells_ok rfl
  have hk : (σ.new [.int .u32 v, .int .u32 u]).get ⟨σ.next, 0, 0⟩ = some [.int .u32 v, .int .u32 u] := by rw [get_new, if_pos rfl]
  obtain ⟨R2, e2, f2⟩ := R.look2 v u
  rw [lookP_some hp] at e2
  have hx : at_ L j ∈ L := at_mem (pos_lt hp)
  generalize at_ L j = x at *
  generalize (σ.new [.int .u32 v, .int .u32 u]).new [.int .u32 v, .int .u32 u] = s2 at R2 e2 f2
  obtain ⟨a, hg, ha⟩ := R2.thing hx
  have t1 : storeAt s2 1 (.ptr x 3) (.int .i64 us) = some (s2.set x (some (.cells (thc ⟨(f x).v, (f x).u, (f x).sz, us⟩ a)))) := by rw [store_one hg (by simp [thc]) (by simp) rfl]; rfl
  have R3 := R2.other hx (y := ⟨(f x).v, (f x).u, (f x).sz, us⟩) (a := a) rfl rfl rfl ha
  have f3 : Frm s2 (s2.set x (some (.cells (thc ⟨(f x).v, (f x).u, (f x).sz, us⟩ a)))) (Fp S M L cc) := ⟨Nat.le_refl _, rfl, fun q _ hF => by
    have : q ≠ x := fun e => hF (.inr (.inr (.inl (e ▸ hx))))
    simp [St.set, this]⟩
  have g3 : (s2.set x (some (.cells (thc ⟨(f x).v, (f x).u, (f x).sz, us⟩ a)))).get x = some (thc ⟨(f x).v, (f x).u, (f x).sz, us⟩ a) := get_set_same _ _ _
  have hs3 := R3.hs
  have f23 := (f2.weak (G := Fp S M L cc) (fun _ h => h.elim)).trans f3 (fun q hq h => h)
  generalize s2.set x (some (.cells (thc ⟨(f x).v, (f x).u, (f x).sz, us⟩ a))) = s3 at *
  cases hs : slotOf H x with
  | none =>
    have hH := slot_none hs
    rcases ha with ⟨k, hk2, e, _⟩ | ⟨_, rfl⟩
    · exact absurd (e ▸ at_mem hk2) hH
    · refine ⟨s3, ?_, by unfold touchH; rw [hs]; exact R3, f23⟩
      rw [ev_raw (tab49 hsS)]
      simp (disch := first | omega | (simp only [rkl]; omega)) only [rk1, rk2, rk3, rk4, rk5, Arg.get, ret1, AV.cells, AV.isCell, addOff, minmaxL, Cap.room, Cap.cut, cutI, isSt, resultOf, Function.comp_apply, Function.comp_def, beq_self_eq_true, if_true, if_false, ite_true, ite_false, reduceCtorEq, bne_self_eq_false, Option.some.injEq, Prod.mk.injEq, ↓reduceIte, Nat.reduceEqDiff, Nat.reduceAdd, Nat.reduceMul, Nat.reduceSub, Nat.reduceLeDiff, Nat.reduceLT, Int.reduceLT, Int.reduceLE, Int.reduceEq, Int.reduceAdd, Int.reduceSub, Int.reduceNeg, Int.reduceToNat, List.mapM_cons, List.mapM_nil, Option.pure_def, Option.bind_eq_bind, eq_self, decide_true, decide_false, code49, p49_1, p49_2, p49_3, p49_5, p49_6, p49_8, hz, hk, e2, t1, g3, thc]
  | some k =>
    obtain ⟨hk1, hk2⟩ := slot_some hs
    rcases ha with ⟨i, hi, e, rfl⟩ | ⟨h, _⟩
    · have hik := at_inj R.hc.nd hi hk1 (e.trans hk2.symm)
      subst hik
      obtain ⟨s4, e4, R4, f4⟩ := R3.fix hk1
      refine ⟨s4, ?_, by unfold touchH; rw [hs]; exact R4, f23.trans f4 (fun q hq h => h)⟩
      have h0 : ((i : Int) ≥ 0) := by omega
      rw [ev_raw (tab49 hsS)]
      simp (disch := first | omega | (simp only [rkl]; omega)) only [rk1, rk2, rk3, rk4, rk5, Arg.get, ret1, AV.cells, AV.isCell, addOff, minmaxL, Cap.room, Cap.cut, cutI, isSt, resultOf, Function.comp_apply, Function.comp_def, beq_self_eq_true, if_true, if_false, ite_true, ite_false, reduceCtorEq, bne_self_eq_false, Option.some.injEq, Prod.mk.injEq, ↓reduceIte, Nat.reduceEqDiff, Nat.reduceAdd, Nat.reduceMul, Nat.reduceSub, Nat.reduceLeDiff, Nat.reduceLT, Int.reduceLT, Int.reduceLE, Int.reduceEq, Int.reduceAdd, Int.reduceSub, Int.reduceNeg, Int.reduceToNat, List.mapM_cons, List.mapM_nil, Option.pure_def, Option.bind_eq_bind, eq_self, decide_true, decide_false, code49, p49_1, p49_2, p49_3, p49_5, p49_6, p49_8, hz, hk, e2, t1, g3, thc, h0]
      rw [drawn sq49_7]
      simp (disch := first | omega | (simp only [rkl]; omega)) only [rk1, rk2, rk3, rk4, rk5, Arg.get, ret1, AV.cells, AV.isCell, addOff, minmaxL, Cap.room, Cap.cut, cutI, isSt, resultOf, Function.comp_apply, Function.comp_def, beq_self_eq_true, if_true, if_false, ite_true, ite_false, reduceCtorEq, bne_self_eq_false, Option.some.injEq, Prod.mk.injEq, ↓reduceIte, Nat.reduceEqDiff, Nat.reduceAdd, Nat.reduceMul, Nat.reduceSub, Nat.reduceLeDiff, Nat.reduceLT, Int.reduceLT, Int.reduceLE, Int.reduceEq, Int.reduceAdd, Int.reduceSub, Int.reduceNeg, Int.reduceToNat, List.mapM_cons, List.mapM_nil, Option.pure_def, Option.bind_eq_bind, eq_self, decide_true, decide_false, d49_7, g3, thc, e4]
    · exact absurd (hk2 ▸ at_mem hk1) h

/-- A thing goes from the heap. -/
def dropH (f : Vm.Id → Ky) (H : List Vm.Id) (x : Vm.Id) : List Vm.Id := match slotOf H x with | some k => (cutL ltK f H k).dropLast | none => H

theorem Rep.gone {j : Nat} (hj : j < L.length) (hH : at_ L j ∉ H) {v u : Int} (hp : posOf (kf f) L v u = some j) {s' : St}
    (h' : s' = (σ.set S (some (.cells [.int .i64 bud, .int .i64 (sumL f L - (f (at_ L j)).sz), .map M, cc]))).set M (some (.map (keysOf f (L.eraseIdx j)) (ptrs (L.eraseIdx j))))) :
    Rep s' S M bud (L.eraseIdx j) H f cc ∧ Frm σ s' (Fp S M L cc) := by
  have hm := fun y => mem_erase R.nd hj y
  have hnn : s'.next = σ.next := by rw [h']; rfl
  have hh : ∀ q, q ≠ S → q ≠ M → s'.heap q = σ.heap q := fun q h1 h2 => by rw [h']; simp [St.set, h1, h2]
  refine ⟨⟨?_, ?_, fun x hx => (hm x).2 ⟨R.sub x hx, fun e => hH (e ▸ hx)⟩, fun x hx hxH => ?_, ?_, fun x hx y hy => R.key x ((hm x).1 hx).1 y ((hm y).1 hy).1, by rw [hnn]; exact R.lS, by rw [hnn]; exact R.lM, fun x hx => by rw [hnn]; exact R.lL x ((hm x).1 hx).1, R.mS, fun e => R.mL ((hm M).1 e).1, fun e => R.sL ((hm S).1 e).1, R.mB, fun x hx => R.bL x ((hm x).1 hx).1, ?_, fun x hx => R.sz x ((hm x).1 hx).1⟩, ⟨by rw [hnn]; exact Nat.le_refl _, by rw [h']; rfl, fun q _ hF => hh q (fun e => hF (.inl e)) (fun e => hF (.inr (.inl e)))⟩⟩
  · have h1 := R.hc.size (z' := .int .i64 (sumL f L - (f (at_ L j)).sz))
    rw [sum_erase hj]
    refine h1.frm (fun q hq => ?_) (by rw [hnn]; exact Nat.le_refl _)
    have hqM : q ≠ M := by
      rintro rfl
      rcases hq with hq | hq | hq
      · exact R.mS hq
      · exact R.mL (R.sub _ hq)
      · exact R.mB hq
    rw [h']; simp [St.set, hqM]
  · rw [h']; simp [St.set]
  · obtain ⟨hx1, _⟩ := (hm x).1 hx
    simp only [St.get, hh x (fun e => R.sL (e ▸ hx1)) (fun e => R.mL (e ▸ hx1))]
    exact R.off x hx1 hxH
  · exact R.nd.sublist (List.eraseIdx_sublist _ _)
  · have := R.few
    have := List.length_eraseIdx_le L j
    omega

theorem drop_none {v u : Int} (hp : posOf (kf f) L v u = none) : ∃ σ', ev (tab hsS) 51 [.ptr S 0, .agg [.int .u32 v, .int .u32 u]] σ = some (.bool false, σ') ∧ Frm σ σ' (fun _ => False) := by
  have hz : newCells σ [.int .u32 v, .int .u32 u] = some (⟨σ.next, 0, 0⟩, σ.new [.int .u32 v, .int .u32 u]) := newCells_ok rfl
  have hk : (σ.new [.int .u32 v, .int .u32 u]).get ⟨σ.next, 0, 0⟩ = some [.int .u32 v, .int .u32 u] := by rw [get_new, if_pos rfl]
  obtain ⟨R2, e2, f2⟩ := R.look2 v u
  rw [lookP_none hp] at e2
  refine ⟨_, ?_, f2⟩
  rw [ev_raw (tab51 hsS)]
  simp (disch := first | omega | (simp only [rkl]; omega)) only [rk1, rk2, rk3, rk4, rk5, Arg.get, ret1, AV.cells, AV.isCell, addOff, minmaxL, Cap.room, Cap.cut, cutI, isSt, resultOf, Function.comp_apply, Function.comp_def, beq_self_eq_true, if_true, if_false, ite_true, ite_false, reduceCtorEq, bne_self_eq_false, Option.some.injEq, Prod.mk.injEq, ↓reduceIte, Nat.reduceEqDiff, Nat.reduceAdd, Nat.reduceMul, Nat.reduceSub, Nat.reduceLeDiff, Nat.reduceLT, Int.reduceLT, Int.reduceLE, Int.reduceEq, Int.reduceAdd, Int.reduceSub, Int.reduceNeg, Int.reduceToNat, List.mapM_cons, List.mapM_nil, Option.pure_def, Option.bind_eq_bind, eq_self, decide_true, decide_false, code51, p51_1, p51_2, p51_3, p51_4, hz, hk, e2]

theorem Rep.remove {k : Nat} (hk : k < H.length) : ∃ σ' r cc', ev (tab hsS) 81 [.iface 131 (.ptr S 3), .int .i64 k] σ = some (r, σ') ∧ Rep σ' S M bud L (cutL ltK f H k).dropLast f cc' ∧ at_ H k ∉ (cutL ltK f H k).dropLast ∧ Frm σ σ' (Fp S M L cc) ∧ refId cc' = refId cc ∧ σ'.next = σ.next := by
  obtain ⟨σ', r, cc', e, h', g, o, hcc⟩ := remove81 R.hc hk
  have hp := cutL_perm (lt := ltK) (f := f) hk
  have hl := hp.length_eq
  have hlast := drop_last (H := cutL ltK f H k) (fun e => by rw [e] at hl; simp at hl; omega)
  rw [hl, cutL_last hk] at hlast
  have nd := hp.nodup_iff.2 R.hc.nd
  rw [← hlast] at nd
  have hnot : at_ H k ∉ (cutL ltK f H k).dropLast := fun e => (List.nodup_append.1 nd).2.2 _ e _ (by simp) rfl
  have hmem : ∀ y, y ∈ (cutL ltK f H k).dropLast → y ∈ H := fun y hy => hp.mem_iff.1 (List.dropLast_subset _ hy)
  have hmem2 : ∀ y, y ∈ H → y ≠ at_ H k → y ∈ (cutL ltK f H k).dropLast := fun y hy hne => by
    have := hp.mem_iff.2 hy
    rw [← hlast] at this
    rcases List.mem_append.1 this with h | h
    · exact h
    · simp at h; exact absurd h hne
  have hn := o.next
  refine ⟨σ', r, cc', e, ⟨h', ?_, fun y hy => R.sub y (hmem y hy), fun y hy hyH => ?_, R.nd, R.key, by rw [hn]; exact R.lS, by rw [hn]; exact R.lM, fun y hy => by rw [hn]; exact R.lL y hy, R.mS, R.mL, R.sL, by rw [hcc]; exact R.mB, fun y hy => by rw [hcc]; exact R.bL y hy, R.few, R.sz⟩, hnot, (o.weak fun q hq => ?_).frm, hcc, hn⟩
  · rw [o.heap M ?_]; exact R.hm
    rintro (h | h | h)
    · exact R.mS h
    · exact R.mL (R.sub M h)
    · exact R.mB h
  · by_cases hy2 : y = at_ H k
    · subst hy2; exact g
    · have n1 : y ∉ H := fun h => hyH (hmem2 y h hy2)
      rw [o.get ?_]; exact R.off y hy n1
      rintro (h | h | h)
      · exact R.sL (h ▸ hy)
      · exact n1 h
      · exact R.bL y hy h
  · rcases hq with hq | hq | hq
    · exact .inl hq
    · exact .inr (.inr (.inl (R.sub q hq)))
    · exact .inr (.inr (.inr hq))

theorem drop_ok {v u : Int} {j : Nat} (hp : posOf (kf f) L v u = some j) : ∃ σ' cc', ev (tab hsS) 51 [.ptr S 0, .agg [.int .u32 v, .int .u32 u]] σ = some (.bool true, σ') ∧
    Rep σ' S M bud (L.eraseIdx j) (dropH f H (at_ L j)) f cc' ∧ Frm σ σ' (Fp S M L cc) ∧ refId cc' = refId cc := by
  have hz : newCells σ [.int .u32 v, .int .u32 u] = some (⟨σ.next, 0, 0⟩, σ.new [.int .u32 v, .int .u32 u]) := newCells_ok rfl
  have hk : (σ.new [.int .u32 v, .int .u32 u]).get ⟨σ.next, 0, 0⟩ = some [.int .u32 v, .int .u32 u] := by rw [get_new, if_pos rfl]
  obtain ⟨R2, e2, f2⟩ := R.look2 v u
  rw [lookP_some hp] at e2
  have hj := pos_lt hp
  have hx : at_ L j ∈ L := at_mem hj
  have kS : (⟨σ.next, 0, 0⟩ : Vm.Id) ≠ S := fun e => by have := R.lS; rw [← e] at this; simp at this
  have kL : (⟨σ.next, 0, 0⟩ : Vm.Id) ∉ L := fun e => by have := R.lL _ e; simp at this
  have kB : refId cc ≠ some ⟨σ.next, 0, 0⟩ := fun e => by have := R.hc.lb _ e; simp at this
  have kM : (⟨σ.next, 0, 0⟩ : Vm.Id) ≠ M := fun e => by have := R.lM; rw [← e] at this; simp at this
  have kF : ¬ Fp S M L cc ⟨σ.next, 0, 0⟩ := by
    rintro (h | h | h | h)
    · exact kS h
    · exact kM h
    · exact kL h
    · exact kB h
  have hk2 : ((σ.new [.int .u32 v, .int .u32 u]).new [.int .u32 v, .int .u32 u]).get ⟨σ.next, 0, 0⟩ = some [.int .u32 v, .int .u32 u] := by rw [new_get (by show σ.next < σ.next + 1; omega)]; exact hk
  have hn2 : ((σ.new [.int .u32 v, .int .u32 u]).new [.int .u32 v, .int .u32 u]).next = σ.next + 2 := rfl
  generalize (σ.new [.int .u32 v, .int .u32 u]).new [.int .u32 v, .int .u32 u] = s2 at R2 e2 f2 hk2 hn2
  obtain ⟨a, hg, ha⟩ := R2.thing hx
  -- what comes behind the heap
  have rest : ∀ {s3 : St} {H3 : List Vm.Id} {cc3 : AV}, Rep s3 S M bud L H3 f cc3 → at_ L j ∉ H3 → s3.get ⟨σ.next, 0, 0⟩ = some [.int .u32 v, .int .u32 u] → ∃ s5, (∀ (ρ : Env) r, run (tab hsS) cRest ρ s3 = r → ρ 0 = .ptr S 0 → ρ 3 = .ptr ⟨σ.next, 0, 0⟩ 0 → ρ 5 = .ptr (at_ L j) 0 →
      ∃ ρ', r = some (.ret, ρ', s5) ∧ ρ' 4 = .bool true) ∧ Rep s5 S M bud (L.eraseIdx j) H3 f cc3 ∧ Frm s3 s5 (Fp S M L cc3) := by
    intro s3 H3 cc3 R3 hH3 hk3
    have hs3 := R3.hs
    have g3 := R3.off _ hx hH3
    have hsl := sum_le R3.sz
    have hfew := R3.few
    have hszx := R3.sz _ hx
    have t1 : storeAt s3 1 (.ptr S 1) (.int .i64 (sumL f L - (f (at_ L j)).sz)) = some (s3.set S (some (.cells [.int .i64 bud, .int .i64 (sumL f L - (f (at_ L j)).sz), .map M, cc3]))) := by rw [store_one hs3 (by simp) (by simp) rfl]; rfl
    have hm4 : (s3.set S (some (.cells [.int .i64 bud, .int .i64 (sumL f L - (f (at_ L j)).sz), .map M, cc3]))).heap M = some (.map (keysOf f L) (ptrs L)) := by simpa [St.set, R.mS] using R3.hm
    have hd := del_map hm4 hp
    have hk4 : (s3.set S (some (.cells [.int .i64 bud, .int .i64 (sumL f L - (f (at_ L j)).sz), .map M, cc3]))).get ⟨σ.next, 0, 0⟩ = some [.int .u32 v, .int .u32 u] := by rw [get_set, if_neg kS]; exact hk3
    have hs4 : (s3.set S (some (.cells [.int .i64 bud, .int .i64 (sumL f L - (f (at_ L j)).sz), .map M, cc3]))).get S = some [.int .i64 bud, .int .i64 (sumL f L - (f (at_ L j)).sz), .map M, cc3] := get_set_same _ _ _
    obtain ⟨R5, f5⟩ := R3.gone hj hH3 hp rfl
    generalize s3.set S (some (.cells [.int .i64 bud, .int .i64 (sumL f L - (f (at_ L j)).sz), .map M, cc3])) = s4 at t1 hd hk4 hs4 R5 f5
    refine ⟨_, fun ρ r hr r0 r3 r5 => ?_, R5, f5⟩
    subst hr
    rw [cRest, run_seq, drawn (seq_d51_7 _)]
    simp (disch := first | omega | (simp only [rkl]; omega)) only [rk1, rk2, rk3, rk4, rk5, Arg.get, ret1, AV.cells, AV.isCell, addOff, minmaxL, Cap.room, Cap.cut, cutI, isSt, resultOf, Function.comp_apply, Function.comp_def, beq_self_eq_true, if_true, if_false, ite_true, ite_false, reduceCtorEq, bne_self_eq_false, Option.some.injEq, Prod.mk.injEq, ↓reduceIte, Nat.reduceEqDiff, Nat.reduceAdd, Nat.reduceMul, Nat.reduceSub, Nat.reduceLeDiff, Nat.reduceLT, Int.reduceLT, Int.reduceLE, Int.reduceEq, Int.reduceAdd, Int.reduceSub, Int.reduceNeg, Int.reduceToNat, List.mapM_cons, List.mapM_nil, Option.pure_def, Option.bind_eq_bind, eq_self, decide_true, decide_false, d51_7, r0, r5, hs3, g3, thc, t1]
    rw [drawn (seq_d51_8 _)]
    simp (disch := first | omega | (simp only [rkl]; omega)) only [rk1, rk2, rk3, rk4, rk5, Arg.get, ret1, AV.cells, AV.isCell, addOff, minmaxL, Cap.room, Cap.cut, cutI, isSt, resultOf, Function.comp_apply, Function.comp_def, beq_self_eq_true, if_true, if_false, ite_true, ite_false, reduceCtorEq, bne_self_eq_false, Option.some.injEq, Prod.mk.injEq, ↓reduceIte, Nat.reduceEqDiff, Nat.reduceAdd, Nat.reduceMul, Nat.reduceSub, Nat.reduceLeDiff, Nat.reduceLT, Int.reduceLT, Int.reduceLE, Int.reduceEq, Int.reduceAdd, Int.reduceSub, Int.reduceNeg, Int.reduceToNat, List.mapM_cons, List.mapM_nil, Option.pure_def, Option.bind_eq_bind, eq_self, decide_true, decide_false, d51_8, r0, r3, hs4, hk4, ev_delete, hd, p51_9]
    exact ⟨_, rfl, by simp (disch := first | omega | (simp only [rkl]; omega)) only [rk1, rk2, rk3, rk4, rk5, Arg.get, ret1, AV.cells, AV.isCell, addOff, minmaxL, Cap.room, Cap.cut, cutI, isSt, resultOf, Function.comp_apply, Function.comp_def, beq_self_eq_true, if_true, if_false, ite_true, ite_false, reduceCtorEq, bne_self_eq_false, Option.some.injEq, Prod.mk.injEq, ↓reduceIte, Nat.reduceEqDiff, Nat.reduceAdd, Nat.reduceMul, Nat.reduceSub, Nat.reduceLeDiff, Nat.reduceLT, Int.reduceLT, Int.reduceLE, Int.reduceEq, Int.reduceAdd, Int.reduceSub, Int.reduceNeg, Int.reduceToNat, List.mapM_cons, List.mapM_nil, Option.pure_def, Option.bind_eq_bind, eq_self, decide_true, decide_false]⟩
  cases hs : slotOf H (at_ L j) with
  | none =>
    have hH := slot_none hs
    rcases ha with ⟨k, hk3, e, _⟩ | ⟨_, rfl⟩
    · exact absurd (e ▸ at_mem hk3) hH
    · obtain ⟨s5, h5, R5, f5⟩ := rest R2 hH hk2
      refine ⟨s5, cc, ?_, by unfold dropH; rw [hs]; exact R5, (f2.weak (G := Fp S M L cc) (fun _ h => h.elim)).trans f5 (fun q hq h => h), rfl⟩
      rw [ev_raw (tab51 hsS), code51_eq]
      simp (disch := first | omega | (simp only [rkl]; omega)) only [rk1, rk2, rk3, rk4, rk5, Arg.get, ret1, AV.cells, AV.isCell, addOff, minmaxL, Cap.room, Cap.cut, cutI, isSt, resultOf, Function.comp_apply, Function.comp_def, beq_self_eq_true, if_true, if_false, ite_true, ite_false, reduceCtorEq, bne_self_eq_false, Option.some.injEq, Prod.mk.injEq, ↓reduceIte, Nat.reduceEqDiff, Nat.reduceAdd, Nat.reduceMul, Nat.reduceSub, Nat.reduceLeDiff, Nat.reduceLT, Int.reduceLT, Int.reduceLE, Int.reduceEq, Int.reduceAdd, Int.reduceSub, Int.reduceNeg, Int.reduceToNat, List.mapM_cons, List.mapM_nil, Option.pure_def, Option.bind_eq_bind, eq_self, decide_true, decide_false, p51_1, p51_2, p51_3, p51_5, hz, hk, e2, hg, thc]
      generalize hr : run (tab hsS) cRest _ _ = r
      obtain ⟨ρ', rfl, q⟩ := h5 _ _ hr (by simp (disch := first | omega | (simp only [rkl]; omega)) only [rk1, rk2, rk3, rk4, rk5, Arg.get, ret1, AV.cells, AV.isCell, addOff, minmaxL, Cap.room, Cap.cut, cutI, isSt, resultOf, Function.comp_apply, Function.comp_def, beq_self_eq_true, if_true, if_false, ite_true, ite_false, reduceCtorEq, bne_self_eq_false, Option.some.injEq, Prod.mk.injEq, ↓reduceIte, Nat.reduceEqDiff, Nat.reduceAdd, Nat.reduceMul, Nat.reduceSub, Nat.reduceLeDiff, Nat.reduceLT, Int.reduceLT, Int.reduceLE, Int.reduceEq, Int.reduceAdd, Int.reduceSub, Int.reduceNeg, Int.reduceToNat, List.mapM_cons, List.mapM_nil, Option.pure_def, Option.bind_eq_bind, eq_self, decide_true, decide_false]) (by simp (disch := first | omega | (simp only [rkl]; omega)) only [rk1, rk2, rk3, rk4, rk5, Arg.get, ret1, AV.cells, AV.isCell, addOff, minmaxL, Cap.room, Cap.cut, cutI, isSt, resultOf, Function.comp_apply, Function.comp_def, beq_self_eq_true, if_true, if_false, ite_true, ite_false, reduceCtorEq, bne_self_eq_false, Option.some.injEq, Prod.mk.injEq, ↓reduceIte, Nat.reduceEqDiff, Nat.reduceAdd, Nat.reduceMul, Nat.reduceSub, Nat.reduceLeDiff, Nat.reduceLT, Int.reduceLT, Int.reduceLE, Int.reduceEq, Int.reduceAdd, Int.reduceSub, Int.reduceNeg, Int.reduceToNat, List.mapM_cons, List.mapM_nil, Option.pure_def, Option.bind_eq_bind, eq_self, decide_true, decide_false]) (by simp (disch := first | omega | (simp only [rkl]; omega)) only [rk1, rk2, rk3, rk4, rk5, Arg.get, ret1, AV.cells, AV.isCell, addOff, minmaxL, Cap.room, Cap.cut, cutI, isSt, resultOf, Function.comp_apply, Function.comp_def, beq_self_eq_true, if_true, if_false, ite_true, ite_false, reduceCtorEq, bne_self_eq_false, Option.some.injEq, Prod.mk.injEq, ↓reduceIte, Nat.reduceEqDiff, Nat.reduceAdd, Nat.reduceMul, Nat.reduceSub, Nat.reduceLeDiff, Nat.reduceLT, Int.reduceLT, Int.reduceLE, Int.reduceEq, Int.reduceAdd, Int.reduceSub, Int.reduceNeg, Int.reduceToNat, List.mapM_cons, List.mapM_nil, Option.pure_def, Option.bind_eq_bind, eq_self, decide_true, decide_false])
      simp (disch := first | omega | (simp only [rkl]; omega)) only [rk1, rk2, rk3, rk4, rk5, Arg.get, ret1, AV.cells, AV.isCell, addOff, minmaxL, Cap.room, Cap.cut, cutI, isSt, resultOf, Function.comp_apply, Function.comp_def, beq_self_eq_true, if_true, if_false, ite_true, ite_false, reduceCtorEq, bne_self_eq_false, Option.some.injEq, Prod.mk.injEq, ↓reduceIte, Nat.reduceEqDiff, Nat.reduceAdd, Nat.reduceMul, Nat.reduceSub, Nat.reduceLeDiff, Nat.reduceLT, Int.reduceLT, Int.reduceLE, Int.reduceEq, Int.reduceAdd, Int.reduceSub, Int.reduceNeg, Int.reduceToNat, List.mapM_cons, List.mapM_nil, Option.pure_def, Option.bind_eq_bind, eq_self, decide_true, decide_false, q]
  | some k =>
    obtain ⟨hk1, hke⟩ := slot_some hs
    rcases ha with ⟨i, hi, e, rfl⟩ | ⟨h, _⟩
    · have hik := at_inj R.hc.nd hi hk1 (e.trans hke.symm)
      subst hik
      obtain ⟨s3, r, cc', e3, R3, hnot, f3, hcc, hn3⟩ := R2.remove hi
      rw [e] at hnot
      have hk3 : s3.get ⟨σ.next, 0, 0⟩ = some [.int .u32 v, .int .u32 u] := by rw [f3.get (by show σ.next < s2.next; omega) kF]; exact hk2
      obtain ⟨s5, h5, R5, f5⟩ := rest R3 hnot hk3
      have h0 : ((i : Int) ≥ 0) := by omega
      have hFeq : ∀ q, Fp S M L cc' q → Fp S M L cc q := fun q hq => by unfold Fp at hq ⊢; rw [hcc] at hq; exact hq
      refine ⟨s5, cc', ?_, by unfold dropH; rw [hs]; exact R5, ((f2.weak (G := Fp S M L cc) (fun _ h => h.elim)).trans f3 (fun q hq h => h)).trans f5 (fun q hq h => hFeq q h), hcc⟩
      have hs2 := R2.hs
      rw [ev_raw (tab51 hsS), code51_eq]
      simp (disch := first | omega | (simp only [rkl]; omega)) only [rk1, rk2, rk3, rk4, rk5, Arg.get, ret1, AV.cells, AV.isCell, addOff, minmaxL, Cap.room, Cap.cut, cutI, isSt, resultOf, Function.comp_apply, Function.comp_def, beq_self_eq_true, if_true, if_false, ite_true, ite_false, reduceCtorEq, bne_self_eq_false, Option.some.injEq, Prod.mk.injEq, ↓reduceIte, Nat.reduceEqDiff, Nat.reduceAdd, Nat.reduceMul, Nat.reduceSub, Nat.reduceLeDiff, Nat.reduceLT, Int.reduceLT, Int.reduceLE, Int.reduceEq, Int.reduceAdd, Int.reduceSub, Int.reduceNeg, Int.reduceToNat, List.mapM_cons, List.mapM_nil, Option.pure_def, Option.bind_eq_bind, eq_self, decide_true, decide_false, p51_1, p51_2, p51_3, p51_5, hz, hk, e2, hg, thc, h0]
      rw [drawn sq51_6]
      simp (disch := first | omega | (simp only [rkl]; omega)) only [rk1, rk2, rk3, rk4, rk5, Arg.get, ret1, AV.cells, AV.isCell, addOff, minmaxL, Cap.room, Cap.cut, cutI, isSt, resultOf, Function.comp_apply, Function.comp_def, beq_self_eq_true, if_true, if_false, ite_true, ite_false, reduceCtorEq, bne_self_eq_false, Option.some.injEq, Prod.mk.injEq, ↓reduceIte, Nat.reduceEqDiff, Nat.reduceAdd, Nat.reduceMul, Nat.reduceSub, Nat.reduceLeDiff, Nat.reduceLT, Int.reduceLT, Int.reduceLE, Int.reduceEq, Int.reduceAdd, Int.reduceSub, Int.reduceNeg, Int.reduceToNat, List.mapM_cons, List.mapM_nil, Option.pure_def, Option.bind_eq_bind, eq_self, decide_true, decide_false, d51_6, hg, thc, hs2, e3]
      generalize hr : run (tab hsS) cRest _ _ = r
      obtain ⟨ρ', rfl, q⟩ := h5 _ _ hr (by simp (disch := first | omega | (simp only [rkl]; omega)) only [rk1, rk2, rk3, rk4, rk5, Arg.get, ret1, AV.cells, AV.isCell, addOff, minmaxL, Cap.room, Cap.cut, cutI, isSt, resultOf, Function.comp_apply, Function.comp_def, beq_self_eq_true, if_true, if_false, ite_true, ite_false, reduceCtorEq, bne_self_eq_false, Option.some.injEq, Prod.mk.injEq, ↓reduceIte, Nat.reduceEqDiff, Nat.reduceAdd, Nat.reduceMul, Nat.reduceSub, Nat.reduceLeDiff, Nat.reduceLT, Int.reduceLT, Int.reduceLE, Int.reduceEq, Int.reduceAdd, Int.reduceSub, Int.reduceNeg, Int.reduceToNat, List.mapM_cons, List.mapM_nil, Option.pure_def, Option.bind_eq_bind, eq_self, decide_true, decide_false]) (by simp (disch := first | omega | (simp only [rkl]; omega)) only [rk1, rk2, rk3, rk4, rk5, Arg.get, ret1, AV.cells, AV.isCell, addOff, minmaxL, Cap.room, Cap.cut, cutI, isSt, resultOf, Function.comp_apply, Function.comp_def, beq_self_eq_true, if_true, if_false, ite_true, ite_false, reduceCtorEq, bne_self_eq_false, Option.some.injEq, Prod.mk.injEq, ↓reduceIte, Nat.reduceEqDiff, Nat.reduceAdd, Nat.reduceMul, Nat.reduceSub, Nat.reduceLeDiff, Nat.reduceLT, Int.reduceLT, Int.reduceLE, Int.reduceEq, Int.reduceAdd, Int.reduceSub, Int.reduceNeg, Int.reduceToNat, List.mapM_cons, List.mapM_nil, Option.pure_def, Option.bind_eq_bind, eq_self, decide_true, decide_false]) (by simp (disch := first | omega | (simp only [rkl]; omega)) only [rk1, rk2, rk3, rk4, rk5, Arg.get, ret1, AV.cells, AV.isCell, addOff, minmaxL, Cap.room, Cap.cut, cutI, isSt, resultOf, Function.comp_apply, Function.comp_def, beq_self_eq_true, if_true, if_false, ite_true, ite_false, reduceCtorEq, bne_self_eq_false, Option.some.injEq, Prod.mk.injEq, ↓reduceIte, Nat.reduceEqDiff, Nat.reduceAdd, Nat.reduceMul, Nat.reduceSub, Nat.reduceLeDiff, Nat.reduceLT, Int.reduceLT, Int.reduceLE, Int.reduceEq, Int.reduceAdd, Int.reduceSub, Int.reduceNeg, Int.reduceToNat, List.mapM_cons, List.mapM_nil, Option.pure_def, Option.bind_eq_bind, eq_self, decide_true, decide_false])
      simp (disch := first | omega | (simp only [rkl]; omega)) only [rk1, rk2, rk3, rk4, rk5, Arg.get, ret1, AV.cells, AV.isCell, addOff, minmaxL, Cap.room, Cap.cut, cutI, isSt, resultOf, Function.comp_apply, Function.comp_def, beq_self_eq_true, if_true, if_false, ite_true, ite_false, reduceCtorEq, bne_self_eq_false, Option.some.injEq, Prod.mk.injEq, ↓reduceIte, Nat.reduceEqDiff, Nat.reduceAdd, Nat.reduceMul, Nat.reduceSub, Nat.reduceLeDiff, Nat.reduceLT, Int.reduceLT, Int.reduceLE, Int.reduceEq, Int.reduceAdd, Int.reduceSub, Int.reduceNeg, Int.reduceToNat, List.mapM_cons, List.mapM_nil, Option.pure_def, Option.bind_eq_bind, eq_self, decide_true, decide_false, q]
    · exact absurd (hke ▸ at_mem hk1) h
end
/-
  THE SHELF: Evict.
-/

/-- Who goes, who stays, and the heap behind it. -/
def evS (bud : Int) (f : Vm.Id → Ky) : Nat → List Vm.Id → List Vm.Id → List Vm.Id × List Vm.Id × List Vm.Id
  | 0, L, H => ([], L, H)
  | n + 1, L, H => if bud < sumL f L ∧ H ≠ [] then
      match posOf (kf f) L (f (at_ H 0)).v (f (at_ H 0)).u with
      | some j => (at_ H 0 :: (evS bud f n (L.eraseIdx j) (dropH f H (at_ H 0))).1, (evS bud f n (L.eraseIdx j) (dropH f H (at_ H 0))).2)
      | none => ([], L, H)
    else ([], L, H)

def gc (f : Vm.Id → Ky) (xs : List Vm.Id) : List AV := xs.flatMap fun x => [.int .u32 (f x).v, .int .u32 (f x).u]
theorem gc_len (f : Vm.Id → Ky) : ∀ xs : List Vm.Id, (gc f xs).length = xs.length * 2
  | [] => rfl
  | x :: xs => by have := gc_len f xs; simp only [gc, List.flatMap_cons, List.length_append, List.length_cons, List.length_nil] at this ⊢; omega
theorem gc_app (f : Vm.Id → Ky) (xs ys : List Vm.Id) : gc f (xs ++ ys) = gc f xs ++ gc f ys := by simp [gc]
theorem gc_cell (f : Vm.Id → Ky) (xs : List Vm.Id) : (gc f xs).all AV.isCell = true := by
  simp only [gc, List.all_eq_true, List.mem_flatMap]
  rintro y ⟨x, _, hy⟩
  simp at hy
  rcases hy with rfl | rfl <;> rfl

/-- The list that is told. -/
def OutL (σ : St) (f : Vm.Id → Ky) (a : AV) (xs : List Vm.Id) : Prop := (a = .nilsl ∧ xs = []) ∨ ∃ G : Vm.Id, a = .sl G 0 xs.length (.ge xs.length) 2 ∧ σ.get G = some (gc f xs)

/-- As Frm; of the blocks below n0 alone. -/
structure FrmB (n0 : Nat) (σ σ' : St) (F : Vm.Id → Prop) : Prop where
  next : σ.next ≤ σ'.next
  ver : σ'.ver = σ.ver
  heap : ∀ q, q.o < n0 → ¬ F q → σ'.heap q = σ.heap q

theorem app_out {s : St} {f : Vm.Id → Ky} {a : AV} {xs : List Vm.Id} (h : OutL s f a xs) (few : xs.length < 2 ^ 30) (x : Vm.Id) :
    ∃ s', appendTo s 2 8 1 (gc f [x]) a = some (.sl ⟨s.next, 0, 0⟩ 0 (xs.length + 1) (.ge (xs.length + 1)) 2, s') ∧ s'.get ⟨s.next, 0, 0⟩ = some (gc f (xs ++ [x])) ∧ s'.next = s.next + 1 ∧ s'.ver = s.ver ∧ (∀ q, q.o < s.next → refId a ≠ some q → s'.heap q = s.heap q) := by
  rcases h with ⟨rfl, rfl⟩ | ⟨G, rfl, hg⟩
  · refine ⟨s.new (gc f [x]), ?_, by rw [get_new, if_pos rfl]; rfl, rfl, rfl, fun q hq _ => (Frm.new s _ (fun _ => False)).heap q hq (fun h => h)⟩
    rw [append_nil' (by omega) (by decide) (gc_cell f [x])]; rfl
  · have hmx : (xs.length + 1) * 8 ≤ lenMax := by have : lenMax = 2 ^ 46 := rfl; omega
    refine ⟨(s.set G none).new (gc f (xs ++ [x])), ?_, by rw [get_new]; exact if_pos rfl, rfl, rfl, fun q hq hne => ?_⟩
    · simp only [appendTo, hg, Cap.room]
      rw [if_neg (by simp), if_neg (by omega), if_pos ⟨by rw [gc_len]; omega, hmx⟩]
      have e : List.take (xs.length * 2) (List.drop 0 (gc f xs)) ++ gc f [x] = gc f (xs ++ [x]) := by
        rw [List.drop_zero, List.take_of_length_le (by rw [gc_len]; omega), gc_app]
      rw [e, newCells_ok (gc_cell f _)]
      rfl
    · have e1 : q ≠ G := fun e => hne (by simp [refId, e])
      have e2 : ¬ (q = ⟨s.next, 0, 0⟩) := fun e => by subst e; simp at hq
      simp [St.new, St.set, e1, e2]

section
variable {S M : Vm.Id} {bud : Int} {f : Vm.Id → Ky}

theorem pos_of {σ : St} {L H : List Vm.Id} {cc : AV} (R : Rep σ S M bud L H f cc) {x : Vm.Id} (hx : x ∈ L) : ∃ j, posOf (kf f) L (f x).v (f x).u = some j ∧ at_ L j = x ∧ j < L.length := by
  cases h : posOf (kf f) L (f x).v (f x).u with
  | none => exact absurd ⟨rfl, rfl⟩ (posOf_none (kf f) h x hx)
  | some j =>
    obtain ⟨hj, h1, h2⟩ := posOf_some (kf f) h
    refine ⟨j, rfl, ?_, hj⟩
    rw [at_get hj]
    exact R.key _ (List.getElem_mem hj) x hx h1 h2

theorem evict_round {n0 : Nat} {σ : St} {L H : List Vm.Id} {cc a : AV} {xs : List Vm.Id} (R : Rep σ S M bud L H f cc) (hb : bud < sumL f L) (hH : H ≠ []) (hbud : -9223372036854775808 ≤ bud) (O : OutL σ f a xs) (few : xs.length < 2 ^ 30) (hn0 : n0 ≤ σ.next)
    (lF : ∀ q, Fp S M L cc q → q.o < n0) (la : ∀ G, refId a = some G → n0 ≤ G.o ∧ G.o < σ.next) {ρ : Env} (r0 : ρ 0 = .ptr S 0) (r3 : ρ 3 = a) {j : Nat} (hp : posOf (kf f) L (f (at_ H 0)).v (f (at_ H 0)).u = some j) (hj : at_ L j = at_ H 0) :
    ∃ ρ' σ' cc' a', run (tab hsS) l43_7 ρ σ = some (.normal, ρ', σ') ∧ Rep σ' S M bud (L.eraseIdx j) (dropH f H (at_ H 0)) f cc' ∧ OutL σ' f a' (xs ++ [at_ H 0]) ∧ refId cc' = refId cc ∧ FrmB n0 σ σ' (Fp S M L cc) ∧
      (∀ G, refId a' = some G → n0 ≤ G.o ∧ G.o < σ'.next) ∧ ρ' 0 = ρ 0 ∧ ρ' 3 = a' := by
  have hs := R.hs
  have h0 : 0 < H.length := List.length_pos_iff.2 hH
  have hx := at_mem h0
  have hlen := R.hc.len
  have gx := R.hc.ht 0 h0
  have hlH : (0 : Int) < (H.length : Int) := by omega
  obtain ⟨B, c, junk, hcc, hB⟩ : ∃ B c junk, cc = .sl B 0 H.length (.ge c) 1 ∧ σ.get B = some (ptrs H ++ junk) := by
    cases R.hc with
    | nil => exact absurd rfl hH
    | sl Q => exact ⟨_, _, _, rfl, Q.hb⟩
  have hel : elemPtr 1 0 cc = some (.ptr B 0) := by rw [hcc, elemPtr_sl h0]
  have hpB := ptrs_part (H := H) (junk := junk) h0
  generalize hxx : at_ H 0 = x at *
  have hz : newCells σ [.int .u32 0, .int .u32 0] = some (⟨σ.next, 0, 0⟩, σ.new [.int .u32 0, .int .u32 0]) := newCells_ok rfl
  have hst : storeAt (σ.new [.int .u32 0, .int .u32 0]) 2 (.ptr ⟨σ.next, 0, 0⟩ 0) (.agg [.int .u32 (f x).v, .int .u32 (f x).u]) = some (σ.new [.int .u32 (f x).v, .int .u32 (f x).u]) := new_store rfl rfl rfl
  have f1 := Frm.new σ [.int .u32 (f x).v, .int .u32 (f x).u] (fun _ => False)
  have R1 := R.frm f1 (fun _ _ h => h)
  have hk : (σ.new [.int .u32 (f x).v, .int .u32 (f x).u]).get ⟨σ.next, 0, 0⟩ = some [.int .u32 (f x).v, .int .u32 (f x).u] := by rw [get_new, if_pos rfl]
  obtain ⟨s2, cc', e2, R2, f2, hcc'⟩ := drop_ok R1 hp
  rw [hj] at R2
  have n1 : (σ.new [.int .u32 (f x).v, .int .u32 (f x).u]).next = σ.next + 1 := rfl
  have kF : ¬ Fp S M L cc ⟨σ.next, 0, 0⟩ := fun h => by have := lF _ h; simp at this; omega
  have hk2 : s2.get ⟨σ.next, 0, 0⟩ = some [.int .u32 (f x).v, .int .u32 (f x).u] := by rw [f2.get (by rw [n1]; show σ.next < _; omega) kF]; exact hk
  have hn2 := f2.next
  have O2 : OutL (s2.new (gc f [x])) f a xs := by
    rcases O with O | ⟨G, rfl, hg⟩
    · exact .inl O
    · obtain ⟨l1, l2⟩ := la G rfl
      refine .inr ⟨G, rfl, ?_⟩
      have gF : ¬ Fp S M L cc G := fun h => by have := lF _ h; omega
      rw [new_get (by omega), f2.get (by rw [n1]; omega) gF, new_get l2]; exact hg
  obtain ⟨s4, e4, g4, n4, v4, h4⟩ := app_out O2 few x
  have n3 : (s2.new (gc f [x])).next = s2.next + 1 := rfl
  rw [n3] at e4 g4
  have hfv : fillV [.int .u32 0, .int .u32 0] [(0, 2, [.int .u32 (f x).v, .int .u32 (f x).u])] = some (gc f [x]) := rfl
  have hz2 : newCells s2 (gc f [x]) = some (⟨s2.next, 0, 0⟩, s2.new (gc f [x])) := newCells_ok (gc_cell f _)
  have hel2 : elems (s2.new (gc f [x])) 2 1 (.sl ⟨s2.next, 0, 0⟩ 0 1 (.ex 1) 2) = some (gc f [x]) := by
    have : (s2.new (gc f [x])).get ⟨s2.next, 0, 0⟩ = some (gc f [x]) := by rw [get_new, if_pos rfl]
    simp only [elems, this]; rfl
  have heap4 : ∀ q, q.o < n0 → s4.heap q = s2.heap q := fun q hq => by
    rw [h4 q (by rw [n3]; omega) (fun e => by have := (la q e).1; omega)]
    exact (Frm.new s2 (gc f [x]) (fun _ => False)).heap q (by omega) (fun h => h)
  have lF2 : ∀ q, Fp S M (L.eraseIdx j) cc' q → q.o < n0 := fun q hq => by
    refine lF q ?_
    rcases hq with hq | hq | hq | hq
    · exact .inl hq
    · exact .inr (.inl hq)
    · exact .inr (.inr (.inl (List.mem_of_mem_eraseIdx hq)))
    · exact .inr (.inr (.inr (by rw [← hcc']; exact hq)))
  have R4 : Rep s4 S M bud (L.eraseIdx j) (dropH f H x) f cc' := by
    refine R2.frm (F := fun q => n0 ≤ q.o) ⟨by rw [n4, n3]; omega, v4, fun q _ hq => heap4 q (by omega)⟩ (fun q hq h => by have := lF2 q hq; omega)
  have hrun : ∃ ρ', run (tab hsS) l43_7 ρ σ = some (.normal, ρ', s4) ∧ ρ' 0 = ρ 0 ∧ ρ' 3 = .sl ⟨s2.next + 1, 0, 0⟩ 0 (xs.length + 1) (.ge (xs.length + 1)) 2 := by
    simp (disch := first | omega | (simp only [rkl]; omega)) only [rk1, rk2, rk3, rk4, rk5, Arg.get, ret1, AV.cells, AV.isCell, addOff, minmaxL, Cap.room, Cap.cut, cutI, isSt, resultOf, Function.comp_apply, Function.comp_def, beq_self_eq_true, if_true, if_false, ite_true, ite_false, reduceCtorEq, bne_self_eq_false, Option.some.injEq, Prod.mk.injEq, ↓reduceIte, Nat.reduceEqDiff, Nat.reduceAdd, Nat.reduceMul, Nat.reduceSub, Nat.reduceLeDiff, Nat.reduceLT, Int.reduceLT, Int.reduceLE, Int.reduceEq, Int.reduceAdd, Int.reduceSub, Int.reduceNeg, Int.reduceToNat, List.mapM_cons, List.mapM_nil, Option.pure_def, Option.bind_eq_bind, eq_self, decide_true, decide_false, l43_7]
    rw [drawn (seq_d43_3 _)]
    simp (disch := first | omega | (simp only [rkl]; omega)) only [rk1, rk2, rk3, rk4, rk5, Arg.get, ret1, AV.cells, AV.isCell, addOff, minmaxL, Cap.room, Cap.cut, cutI, isSt, resultOf, Function.comp_apply, Function.comp_def, beq_self_eq_true, if_true, if_false, ite_true, ite_false, reduceCtorEq, bne_self_eq_false, Option.some.injEq, Prod.mk.injEq, ↓reduceIte, Nat.reduceEqDiff, Nat.reduceAdd, Nat.reduceMul, Nat.reduceSub, Nat.reduceLeDiff, Nat.reduceLT, Int.reduceLT, Int.reduceLE, Int.reduceEq, Int.reduceAdd, Int.reduceSub, Int.reduceNeg, Int.reduceToNat, List.mapM_cons, List.mapM_nil, Option.pure_def, Option.bind_eq_bind, eq_self, decide_true, decide_false, d43_3, r0, hs, hb, hlen, hlH, p43_4, p43_5, p43_6, hel, hB, hpB, gx, thc, hz, hst, hk, e2, hk2, r3, hfv, hz2, hel2, e4]
    exact ⟨_, rfl, by simp (disch := first | omega | (simp only [rkl]; omega)) only [rk1, rk2, rk3, rk4, rk5, Arg.get, ret1, AV.cells, AV.isCell, addOff, minmaxL, Cap.room, Cap.cut, cutI, isSt, resultOf, Function.comp_apply, Function.comp_def, beq_self_eq_true, if_true, if_false, ite_true, ite_false, reduceCtorEq, bne_self_eq_false, Option.some.injEq, Prod.mk.injEq, ↓reduceIte, Nat.reduceEqDiff, Nat.reduceAdd, Nat.reduceMul, Nat.reduceSub, Nat.reduceLeDiff, Nat.reduceLT, Int.reduceLT, Int.reduceLE, Int.reduceEq, Int.reduceAdd, Int.reduceSub, Int.reduceNeg, Int.reduceToNat, List.mapM_cons, List.mapM_nil, Option.pure_def, Option.bind_eq_bind, eq_self, decide_true, decide_false, r0], by simp (disch := first | omega | (simp only [rkl]; omega)) only [rk1, rk2, rk3, rk4, rk5, Arg.get, ret1, AV.cells, AV.isCell, addOff, minmaxL, Cap.room, Cap.cut, cutI, isSt, resultOf, Function.comp_apply, Function.comp_def, beq_self_eq_true, if_true, if_false, ite_true, ite_false, reduceCtorEq, bne_self_eq_false, Option.some.injEq, Prod.mk.injEq, ↓reduceIte, Nat.reduceEqDiff, Nat.reduceAdd, Nat.reduceMul, Nat.reduceSub, Nat.reduceLeDiff, Nat.reduceLT, Int.reduceLT, Int.reduceLE, Int.reduceEq, Int.reduceAdd, Int.reduceSub, Int.reduceNeg, Int.reduceToNat, List.mapM_cons, List.mapM_nil, Option.pure_def, Option.bind_eq_bind, eq_self, decide_true, decide_false]⟩
  obtain ⟨ρ', hr, q0, q3⟩ := hrun
  refine ⟨ρ', s4, cc', _, hr, R4, .inr ⟨⟨s2.next + 1, 0, 0⟩, ?_, g4⟩, hcc', ⟨by rw [n4, n3]; omega, by rw [v4]; exact f2.ver, fun q hq hF => ?_⟩, fun G hG => ?_, q0, q3⟩
  · simp
  · rw [heap4 q hq, f2.heap q (by rw [n1]; omega) hF]
    exact f1.heap q (by omega) (fun h => h)
  · simp only [refId, Option.some.injEq] at hG; subst hG
    refine ⟨by show n0 ≤ s2.next + 1; omega, by rw [n4, n3]; show s2.next + 1 < _; omega⟩

theorem sum_nil {f : Vm.Id → Ky} : sumL f [] = 0 := rfl

theorem evict_loop {n0 : Nat} (hbud : -9223372036854775808 ≤ bud) : ∀ (n : Nat) {σ : St} {L H : List Vm.Id} {cc a : AV} {xs : List Vm.Id} (_ : Rep σ S M bud L H f cc) (_ : L.length ≤ n) (_ : OutL σ f a xs) (_ : xs.length + n < 2 ^ 30) (_ : n0 ≤ σ.next)
    (_ : ∀ q, Fp S M L cc q → q.o < n0) (_ : ∀ G, refId a = some G → n0 ≤ G.o ∧ G.o < σ.next) {ρ : Env} (_ : ρ 0 = .ptr S 0) (_ : ρ 3 = a),
    ∃ ρ' σ' cc' a', run (tab hsS) (.loop l43_7) ρ σ = some (.exit 0, ρ', σ') ∧ Rep σ' S M bud (evS bud f n L H).2.1 (evS bud f n L H).2.2 f cc' ∧ OutL σ' f a' (xs ++ (evS bud f n L H).1) ∧ refId cc' = refId cc ∧ FrmB n0 σ σ' (Fp S M L cc) ∧
      (∀ G, refId a' = some G → n0 ≤ G.o ∧ G.o < σ'.next) ∧ ρ' 3 = a' := by
  intro n
  have stop : ∀ {σ : St} {L H : List Vm.Id} {cc a : AV} {xs : List Vm.Id} (R : Rep σ S M bud L H f cc) (_ : ¬ (bud < sumL f L ∧ H ≠ [])) (O : OutL σ f a xs) (la : ∀ G, refId a = some G → n0 ≤ G.o ∧ G.o < σ.next) {ρ : Env} (_ : ρ 0 = .ptr S 0) (_ : ρ 3 = a),
      ∃ ρ' σ' cc' a', run (tab hsS) (.loop l43_7) ρ σ = some (.exit 0, ρ', σ') ∧ Rep σ' S M bud L H f cc' ∧ OutL σ' f a' (xs ++ []) ∧ refId cc' = refId cc ∧ FrmB n0 σ σ' (Fp S M L cc) ∧
      (∀ G, refId a' = some G → n0 ≤ G.o ∧ G.o < σ'.next) ∧ ρ' 3 = a' := by
    intro σ L H cc a xs R hno O la ρ r0 r3
    have hs := R.hs
    have hlen := R.hc.len
    rw [List.append_nil]
    have hr : ∃ ρ', run (tab hsS) (.loop l43_7) ρ σ = some (.exit 0, ρ', σ) ∧ ρ' 3 = ρ 3 := by
      rw [run_loop]
      by_cases hb : bud < sumL f L
      · have hH : ¬ ((0 : Int) < (H.length : Int)) := by
          have : H = [] := Classical.byContradiction fun h => hno ⟨hb, h⟩
          simp [this]
        simp (disch := first | omega | (simp only [rkl]; omega)) only [rk1, rk2, rk3, rk4, rk5, Arg.get, ret1, AV.cells, AV.isCell, addOff, minmaxL, Cap.room, Cap.cut, cutI, isSt, resultOf, Function.comp_apply, Function.comp_def, beq_self_eq_true, if_true, if_false, ite_true, ite_false, reduceCtorEq, bne_self_eq_false, Option.some.injEq, Prod.mk.injEq, ↓reduceIte, Nat.reduceEqDiff, Nat.reduceAdd, Nat.reduceMul, Nat.reduceSub, Nat.reduceLeDiff, Nat.reduceLT, Int.reduceLT, Int.reduceLE, Int.reduceEq, Int.reduceAdd, Int.reduceSub, Int.reduceNeg, Int.reduceToNat, List.mapM_cons, List.mapM_nil, Option.pure_def, Option.bind_eq_bind, eq_self, decide_true, decide_false, l43_7]
        rw [drawn (seq_d43_3 _)]
        simp (disch := first | omega | (simp only [rkl]; omega)) only [rk1, rk2, rk3, rk4, rk5, Arg.get, ret1, AV.cells, AV.isCell, addOff, minmaxL, Cap.room, Cap.cut, cutI, isSt, resultOf, Function.comp_apply, Function.comp_def, beq_self_eq_true, if_true, if_false, ite_true, ite_false, reduceCtorEq, bne_self_eq_false, Option.some.injEq, Prod.mk.injEq, ↓reduceIte, Nat.reduceEqDiff, Nat.reduceAdd, Nat.reduceMul, Nat.reduceSub, Nat.reduceLeDiff, Nat.reduceLT, Int.reduceLT, Int.reduceLE, Int.reduceEq, Int.reduceAdd, Int.reduceSub, Int.reduceNeg, Int.reduceToNat, List.mapM_cons, List.mapM_nil, Option.pure_def, Option.bind_eq_bind, eq_self, decide_true, decide_false, d43_3, r0, hs, hb, hlen, hH]
        exact ⟨_, rfl, by simp (disch := first | omega | (simp only [rkl]; omega)) only [rk1, rk2, rk3, rk4, rk5, Arg.get, ret1, AV.cells, AV.isCell, addOff, minmaxL, Cap.room, Cap.cut, cutI, isSt, resultOf, Function.comp_apply, Function.comp_def, beq_self_eq_true, if_true, if_false, ite_true, ite_false, reduceCtorEq, bne_self_eq_false, Option.some.injEq, Prod.mk.injEq, ↓reduceIte, Nat.reduceEqDiff, Nat.reduceAdd, Nat.reduceMul, Nat.reduceSub, Nat.reduceLeDiff, Nat.reduceLT, Int.reduceLT, Int.reduceLE, Int.reduceEq, Int.reduceAdd, Int.reduceSub, Int.reduceNeg, Int.reduceToNat, List.mapM_cons, List.mapM_nil, Option.pure_def, Option.bind_eq_bind, eq_self, decide_true, decide_false, r3]⟩
      · simp (disch := first | omega | (simp only [rkl]; omega)) only [rk1, rk2, rk3, rk4, rk5, Arg.get, ret1, AV.cells, AV.isCell, addOff, minmaxL, Cap.room, Cap.cut, cutI, isSt, resultOf, Function.comp_apply, Function.comp_def, beq_self_eq_true, if_true, if_false, ite_true, ite_false, reduceCtorEq, bne_self_eq_false, Option.some.injEq, Prod.mk.injEq, ↓reduceIte, Nat.reduceEqDiff, Nat.reduceAdd, Nat.reduceMul, Nat.reduceSub, Nat.reduceLeDiff, Nat.reduceLT, Int.reduceLT, Int.reduceLE, Int.reduceEq, Int.reduceAdd, Int.reduceSub, Int.reduceNeg, Int.reduceToNat, List.mapM_cons, List.mapM_nil, Option.pure_def, Option.bind_eq_bind, eq_self, decide_true, decide_false, l43_7]
        rw [drawn (seq_d43_3 _)]
        simp (disch := first | omega | (simp only [rkl]; omega)) only [rk1, rk2, rk3, rk4, rk5, Arg.get, ret1, AV.cells, AV.isCell, addOff, minmaxL, Cap.room, Cap.cut, cutI, isSt, resultOf, Function.comp_apply, Function.comp_def, beq_self_eq_true, if_true, if_false, ite_true, ite_false, reduceCtorEq, bne_self_eq_false, Option.some.injEq, Prod.mk.injEq, ↓reduceIte, Nat.reduceEqDiff, Nat.reduceAdd, Nat.reduceMul, Nat.reduceSub, Nat.reduceLeDiff, Nat.reduceLT, Int.reduceLT, Int.reduceLE, Int.reduceEq, Int.reduceAdd, Int.reduceSub, Int.reduceNeg, Int.reduceToNat, List.mapM_cons, List.mapM_nil, Option.pure_def, Option.bind_eq_bind, eq_self, decide_true, decide_false, d43_3, r0, hs, hb, hlen]
        exact ⟨_, rfl, by simp (disch := first | omega | (simp only [rkl]; omega)) only [rk1, rk2, rk3, rk4, rk5, Arg.get, ret1, AV.cells, AV.isCell, addOff, minmaxL, Cap.room, Cap.cut, cutI, isSt, resultOf, Function.comp_apply, Function.comp_def, beq_self_eq_true, if_true, if_false, ite_true, ite_false, reduceCtorEq, bne_self_eq_false, Option.some.injEq, Prod.mk.injEq, ↓reduceIte, Nat.reduceEqDiff, Nat.reduceAdd, Nat.reduceMul, Nat.reduceSub, Nat.reduceLeDiff, Nat.reduceLT, Int.reduceLT, Int.reduceLE, Int.reduceEq, Int.reduceAdd, Int.reduceSub, Int.reduceNeg, Int.reduceToNat, List.mapM_cons, List.mapM_nil, Option.pure_def, Option.bind_eq_bind, eq_self, decide_true, decide_false, r3]⟩
    obtain ⟨ρ', hr, q3⟩ := hr
    exact ⟨ρ', σ, cc, a, hr, R, O, rfl, ⟨Nat.le_refl _, rfl, fun _ _ _ => rfl⟩, la, q3.trans r3⟩
  induction n with
  | zero =>
    intro σ L H cc a xs R hL O few hn0 lF la ρ r0 r3
    have hH : H = [] := by
      have h0 : L = [] := List.length_eq_zero_iff.1 (by omega)
      cases H with
      | nil => rfl
      | cons y H => have := R.sub y (by simp); rw [h0] at this; simp at this
    exact stop R (fun h => h.2 hH) O la r0 r3
  | succ n ih =>
    intro σ L H cc a xs R hL O few hn0 lF la ρ r0 r3
    unfold evS
    by_cases hb : bud < sumL f L ∧ H ≠ []
    · rw [if_pos hb]
      have h0 : 0 < H.length := List.length_pos_iff.2 hb.2
      obtain ⟨j, hp, hj, hjl⟩ := pos_of R (R.sub _ (at_mem h0))
      rw [hp]
      obtain ⟨ρ1, σ1, cc1, a1, e1, R1, O1, hc1, f1, la1, q0, q3⟩ := evict_round R hb.1 hb.2 hbud O (by omega) hn0 lF la r0 r3 hp hj
      have hn1 := f1.next
      have hFe : ∀ q, Fp S M (L.eraseIdx j) cc1 q → Fp S M L cc q := fun q hq => by
        rcases hq with hq | hq | hq | hq
        · exact .inl hq
        · exact .inr (.inl hq)
        · exact .inr (.inr (.inl (List.mem_of_mem_eraseIdx hq)))
        · exact .inr (.inr (.inr (by rw [← hc1]; exact hq)))
      have hll : (L.eraseIdx j).length ≤ n := by rw [List.length_eraseIdx_of_lt hjl]; omega
      obtain ⟨ρ2, σ2, cc2, a2, e2, R2, O2, hc2, f2, la2, p3⟩ := ih R1 hll O1 (by simp; omega) (by omega) (fun q hq => lF q (hFe q hq)) la1 (q0.trans r0) q3
      refine ⟨ρ2, σ2, cc2, a2, ?_, R2, by simpa using O2, hc2.trans hc1, ⟨by have := f2.next; omega, f2.ver.trans f1.ver, fun q hq hF => ?_⟩, la2, p3⟩
      · rw [run_loop, e1]; simp (disch := first | omega | (simp only [rkl]; omega)) only [rk1, rk2, rk3, rk4, rk5, Arg.get, ret1, AV.cells, AV.isCell, addOff, minmaxL, Cap.room, Cap.cut, cutI, isSt, resultOf, Function.comp_apply, Function.comp_def, beq_self_eq_true, if_true, if_false, ite_true, ite_false, reduceCtorEq, bne_self_eq_false, Option.some.injEq, Prod.mk.injEq, ↓reduceIte, Nat.reduceEqDiff, Nat.reduceAdd, Nat.reduceMul, Nat.reduceSub, Nat.reduceLeDiff, Nat.reduceLT, Int.reduceLT, Int.reduceLE, Int.reduceEq, Int.reduceAdd, Int.reduceSub, Int.reduceNeg, Int.reduceToNat, List.mapM_cons, List.mapM_nil, Option.pure_def, Option.bind_eq_bind, eq_self, decide_true, decide_false]; exact e2
      · rw [f2.heap q hq (fun h => hF (hFe q h)), f1.heap q hq hF]
    · rw [if_neg hb]
      exact stop R hb O la r0 r3

theorem evict_ev {σ : St} {L H : List Vm.Id} {cc : AV} (R : Rep σ S M bud L H f cc) (hbud : -9223372036854775808 ≤ bud) : ∃ σ' cc' a, ev (tab hsS) 43 [.ptr S 0] σ = some (a, σ') ∧
    Rep σ' S M bud (evS bud f L.length L H).2.1 (evS bud f L.length L H).2.2 f cc' ∧ OutL σ' f a (evS bud f L.length L H).1 ∧ refId cc' = refId cc ∧ Frm σ σ' (Fp S M L cc) ∧ (∀ G, refId a = some G → σ.next ≤ G.o ∧ G.o < σ'.next) := by
  have lF : ∀ q, Fp S M L cc q → q.o < σ.next := by
    rintro q (rfl | rfl | hq | hq)
    · exact R.lS
    · exact R.lM
    · exact R.lL q hq
    · exact R.hc.lb q hq
  have hfew := R.few
  have key : ∀ (ρ : Env) r, run (tab hsS) (.loop l43_7) ρ σ = r → ρ 0 = .ptr S 0 → ρ 3 = .nilsl → ∃ ρ' σ' cc' a', r = some (.exit 0, ρ', σ') ∧ Rep σ' S M bud (evS bud f L.length L H).2.1 (evS bud f L.length L H).2.2 f cc' ∧ OutL σ' f a' (evS bud f L.length L H).1 ∧
      refId cc' = refId cc ∧ FrmB σ.next σ σ' (Fp S M L cc) ∧ (∀ G, refId a' = some G → σ.next ≤ G.o ∧ G.o < σ'.next) ∧ ρ' 3 = a' := by
    intro ρ r hr r0 r3
    subst hr
    have := evict_loop (f := f) (n0 := σ.next) hbud L.length R (Nat.le_refl _) (.inl ⟨rfl, rfl⟩) (by simp; omega) (Nat.le_refl _) lF (fun G h => by simp [refId] at h) r0 r3
    simpa using this
  rw [ev_raw (tab43 hsS)]
  simp (disch := first | omega | (simp only [rkl]; omega)) only [rk1, rk2, rk3, rk4, rk5, Arg.get, ret1, AV.cells, AV.isCell, addOff, minmaxL, Cap.room, Cap.cut, cutI, isSt, resultOf, Function.comp_apply, Function.comp_def, beq_self_eq_true, if_true, if_false, ite_true, ite_false, reduceCtorEq, bne_self_eq_false, Option.some.injEq, Prod.mk.injEq, ↓reduceIte, Nat.reduceEqDiff, Nat.reduceAdd, Nat.reduceMul, Nat.reduceSub, Nat.reduceLeDiff, Nat.reduceLT, Int.reduceLT, Int.reduceLE, Int.reduceEq, Int.reduceAdd, Int.reduceSub, Int.reduceNeg, Int.reduceToNat, List.mapM_cons, List.mapM_nil, Option.pure_def, Option.bind_eq_bind, eq_self, decide_true, decide_false, code43, p43_1, p43_2]
  generalize hr : run (tab hsS) (.loop l43_7) _ _ = r
  obtain ⟨ρ', σ', cc', a', rfl, R', O', hc, fb, la, q3⟩ := key _ _ hr (by simp (disch := first | omega | (simp only [rkl]; omega)) only [rk1, rk2, rk3, rk4, rk5, Arg.get, ret1, AV.cells, AV.isCell, addOff, minmaxL, Cap.room, Cap.cut, cutI, isSt, resultOf, Function.comp_apply, Function.comp_def, beq_self_eq_true, if_true, if_false, ite_true, ite_false, reduceCtorEq, bne_self_eq_false, Option.some.injEq, Prod.mk.injEq, ↓reduceIte, Nat.reduceEqDiff, Nat.reduceAdd, Nat.reduceMul, Nat.reduceSub, Nat.reduceLeDiff, Nat.reduceLT, Int.reduceLT, Int.reduceLE, Int.reduceEq, Int.reduceAdd, Int.reduceSub, Int.reduceNeg, Int.reduceToNat, List.mapM_cons, List.mapM_nil, Option.pure_def, Option.bind_eq_bind, eq_self, decide_true, decide_false]) (by simp (disch := first | omega | (simp only [rkl]; omega)) only [rk1, rk2, rk3, rk4, rk5, Arg.get, ret1, AV.cells, AV.isCell, addOff, minmaxL, Cap.room, Cap.cut, cutI, isSt, resultOf, Function.comp_apply, Function.comp_def, beq_self_eq_true, if_true, if_false, ite_true, ite_false, reduceCtorEq, bne_self_eq_false, Option.some.injEq, Prod.mk.injEq, ↓reduceIte, Nat.reduceEqDiff, Nat.reduceAdd, Nat.reduceMul, Nat.reduceSub, Nat.reduceLeDiff, Nat.reduceLT, Int.reduceLT, Int.reduceLE, Int.reduceEq, Int.reduceAdd, Int.reduceSub, Int.reduceNeg, Int.reduceToNat, List.mapM_cons, List.mapM_nil, Option.pure_def, Option.bind_eq_bind, eq_self, decide_true, decide_false])
  simp (disch := first | omega | (simp only [rkl]; omega)) only [rk1, rk2, rk3, rk4, rk5, Arg.get, ret1, AV.cells, AV.isCell, addOff, minmaxL, Cap.room, Cap.cut, cutI, isSt, resultOf, Function.comp_apply, Function.comp_def, beq_self_eq_true, if_true, if_false, ite_true, ite_false, reduceCtorEq, bne_self_eq_false, Option.some.injEq, Prod.mk.injEq, ↓reduceIte, Nat.reduceEqDiff, Nat.reduceAdd, Nat.reduceMul, Nat.reduceSub, Nat.reduceLeDiff, Nat.reduceLT, Int.reduceLT, Int.reduceLE, Int.reduceEq, Int.reduceAdd, Int.reduceSub, Int.reduceNeg, Int.reduceToNat, List.mapM_cons, List.mapM_nil, Option.pure_def, Option.bind_eq_bind, eq_self, decide_true, decide_false, p43_8, q3]
  exact ⟨_, cc', _, ⟨rfl, rfl⟩, R', O', hc, ⟨fb.next, fb.ver, fb.heap⟩, la⟩
end
/-
  THE SHELF: what goes, in plain words; is one in a list?
-/

theorem cut_mem {H : List Vm.Id} (nd : H.Nodup) (f : Vm.Id → Ky) {k : Nat} (hk : k < H.length) : (∀ y, y ∈ (cutL ltK f H k).dropLast ↔ y ∈ H ∧ y ≠ at_ H k) ∧ (cutL ltK f H k).dropLast.Nodup ∧ (cutL ltK f H k).dropLast.length + 1 = H.length := by
  have hp := cutL_perm (lt := ltK) (f := f) hk
  have hl := hp.length_eq
  have hlast := drop_last (H := cutL ltK f H k) (fun e => by rw [e] at hl; simp at hl; omega)
  rw [hl, cutL_last hk] at hlast
  have nd' := hp.nodup_iff.2 nd
  rw [← hlast] at nd'
  have nda := List.nodup_append.1 nd'
  refine ⟨fun y => ⟨fun hy => ⟨hp.mem_iff.1 (List.dropLast_subset _ hy), fun e => nda.2.2 _ hy _ (by simp) e⟩, fun ⟨hy, hne⟩ => ?_⟩, nda.1, by simp [hl]; omega⟩
  have := hp.mem_iff.2 hy
  rw [← hlast] at this
  rcases List.mem_append.1 this with h | h
  · exact h
  · simp at h; exact absurd h hne

theorem slot_of {H : List Vm.Id} (nd : H.Nodup) {k : Nat} (hk : k < H.length) : slotOf H (at_ H k) = some k := by
  cases h : slotOf H (at_ H k) with
  | none => exact absurd (at_mem hk) (slot_none h)
  | some i => obtain ⟨h1, h2⟩ := slot_some h; rw [at_inj nd h1 hk h2]

theorem drop_mem {H : List Vm.Id} (nd : H.Nodup) (f : Vm.Id → Ky) (x : Vm.Id) : (∀ y, y ∈ dropH f H x ↔ y ∈ H ∧ y ≠ x) ∧ (dropH f H x).Nodup := by
  unfold dropH
  cases h : slotOf H x with
  | none => exact ⟨fun y => ⟨fun hy => ⟨hy, fun e => slot_none h (e ▸ hy)⟩, fun hy => hy.1⟩, nd⟩
  | some k =>
    obtain ⟨h1, h2⟩ := slot_some h
    obtain ⟨m, n, _⟩ := cut_mem nd f h1
    rw [h2] at m
    exact ⟨m, n⟩

/-- What is known of those that went. -/
structure Went (bud : Int) (f : Vm.Id → Ky) (L H G L' H' : List Vm.Id) : Prop where
  sub : ∀ x ∈ G, x ∈ H
  nd : G.Nodup
  left : ∀ x, x ∈ L' ↔ x ∈ L ∧ x ∉ G
  heap : ∀ x, x ∈ H' ↔ x ∈ H ∧ x ∉ G
  len : L'.length + G.length = L.length
  done : ¬ (bud < sumL f L' ∧ H' ≠ [])

theorem went (bud : Int) (f : Vm.Id → Ky) : ∀ (n : Nat) (L H : List Vm.Id), L.length ≤ n → L.Nodup → H.Nodup → (∀ x ∈ H, x ∈ L) → (∀ x ∈ L, ∀ y ∈ L, (f x).v = (f y).v → (f x).u = (f y).u → x = y) →
    Went bud f L H (evS bud f n L H).1 (evS bud f n L H).2.1 (evS bud f n L H).2.2 := by
  intro n
  have stop : ∀ (L H : List Vm.Id), ¬ (bud < sumL f L ∧ H ≠ []) → Went bud f L H [] L H := fun L H h => ⟨by simp, by simp, by simp, by simp, by simp, h⟩
  induction n with
  | zero =>
    intro L H hL ndL ndH sub key
    have h0 : L = [] := List.length_eq_zero_iff.1 (by omega)
    have hH : H = [] := by
      cases H with
      | nil => rfl
      | cons y H => have := sub y (by simp); rw [h0] at this; simp at this
    exact stop L H (fun h => h.2 hH)
  | succ n ih =>
    intro L H hL ndL ndH sub key
    unfold evS
    by_cases hb : bud < sumL f L ∧ H ≠ []
    · rw [if_pos hb]
      have h0 : 0 < H.length := List.length_pos_iff.2 hb.2
      have hx := at_mem h0
      generalize at_ H 0 = x at *
      cases hp : posOf (kf f) L (f x).v (f x).u with
      | none => exact absurd ⟨rfl, rfl⟩ (posOf_none (kf f) hp x (sub x hx))
      | some j =>
        obtain ⟨hj, h1, h2⟩ := posOf_some (kf f) hp
        have hjx : at_ L j = x := by rw [at_get hj]; exact key _ (List.getElem_mem hj) x (sub x hx) h1 h2
        have hm := fun y => mem_erase ndL hj y
        rw [hjx] at hm
        obtain ⟨dm, dn⟩ := drop_mem ndH f x
        have hll : (L.eraseIdx j).length ≤ n := by rw [List.length_eraseIdx_of_lt hj]; omega
        have W := ih (L.eraseIdx j) (dropH f H x) hll (ndL.sublist (List.eraseIdx_sublist _ _)) dn (fun y hy => (hm y).2 ⟨sub y ((dm y).1 hy).1, ((dm y).1 hy).2⟩) (fun a ha b hb => key a ((hm a).1 ha).1 b ((hm b).1 hb).1)
        have hxG : x ∉ (evS bud f n (L.eraseIdx j) (dropH f H x)).1 := fun h => ((dm x).1 (W.sub x h)).2 rfl
        refine ⟨fun y hy => ?_, List.nodup_cons.2 ⟨hxG, W.nd⟩, fun y => ?_, fun y => ?_, ?_, W.done⟩
        · rcases List.mem_cons.1 hy with rfl | hy
          · exact hx
          · exact ((dm y).1 (W.sub y hy)).1
        · rw [W.left, hm]; simp only [List.mem_cons, not_or]; exact ⟨fun h => ⟨h.1.1, h.1.2, h.2⟩, fun h => ⟨⟨h.1, h.2.1⟩, h.2.2⟩⟩
        · rw [W.heap, dm]; simp only [List.mem_cons, not_or]; exact ⟨fun h => ⟨h.1.1, h.1.2, h.2⟩, fun h => ⟨⟨h.1, h.2.1⟩, h.2.2⟩⟩
        · have := W.len
          rw [List.length_eraseIdx_of_lt hj] at this
          simp only [List.length_cons]; omega
    · rw [if_neg hb]
      exact stop L H hb

theorem evS_done {bud : Int} {f : Vm.Id → Ky} {L H : List Vm.Id} (h : ¬ (bud < sumL f L ∧ H ≠ [])) (n : Nat) : evS bud f n L H = ([], L, H) := by
  cases n with
  | zero => rfl
  | succ n => unfold evS; rw [if_neg h]

theorem gc_at {f : Vm.Id → Ky} : ∀ {xs : List Vm.Id} {i : Nat} {x : Vm.Id}, xs[i]? = some x → ((gc f xs).drop (i * 2)).take 2 = [.int .u32 (f x).v, .int .u32 (f x).u]
  | y :: xs, 0, x, hx => by
    simp only [List.getElem?_cons_zero, Option.some.injEq] at hx; subst hx
    rw [gc, List.flatMap_cons, Nat.zero_mul, List.drop_zero]
    exact List.take_left' rfl
  | y :: xs, i + 1, x, hx => by
    rw [gc, List.flatMap_cons, Nat.add_mul, Nat.one_mul, Nat.add_comm, ← List.drop_drop]
    show List.take 2 (List.drop (i * 2) (gc f xs)) = _
    exact gc_at (xs := xs) (by simpa using hx)

/-- Is one in a list? -/
def inL (f : Vm.Id → Ky) (xs : List Vm.Id) (v u : Int) : Bool := xs.any fun x => decide ((f x).v = v) && decide ((f x).u = u)

section
variable {f : Vm.Id → Ky} {fl : Bool} {v u : Int}

theorem in_loop {xs : List Vm.Id} (hl : xs.length < 2 ^ 40) {σ : St} {q : Vm.Id} (hg : σ.get q = some [.int .u32 v, .int .u32 u]) : ∀ (m i : Nat), i + m = xs.length → ∀ {ρ : Env}, ρ 0 = .isl fl (gc f xs) xs.length none → ρ 3 = .ptr q 0 → ρ 5 = .int .i64 i →
    ∃ ρ', run (tab hsS) (.loop l44_7) ρ σ = some (if inL f (xs.drop i) v u then .ret else .exit 0, ρ', σ) ∧ (inL f (xs.drop i) v u = true → ρ' 4 = .bool true)
  | 0, i, him, ρ, r0, r3, r5 => by
    have hi : i = xs.length := by omega
    subst hi
    rw [run_loop, List.drop_length]
    simp (disch := first | omega | (simp only [rkl]; omega)) only [rk1, rk2, rk3, rk4, rk5, Arg.get, ret1, AV.cells, AV.isCell, addOff, minmaxL, Cap.room, Cap.cut, cutI, isSt, resultOf, Function.comp_apply, Function.comp_def, beq_self_eq_true, if_true, if_false, ite_true, ite_false, reduceCtorEq, bne_self_eq_false, Option.some.injEq, Prod.mk.injEq, ↓reduceIte, Nat.reduceEqDiff, Nat.reduceAdd, Nat.reduceMul, Nat.reduceSub, Nat.reduceLeDiff, Nat.reduceLT, Int.reduceLT, Int.reduceLE, Int.reduceEq, Int.reduceAdd, Int.reduceSub, Int.reduceNeg, Int.reduceToNat, List.mapM_cons, List.mapM_nil, Option.pure_def, Option.bind_eq_bind, eq_self, decide_true, decide_false, l44_7, p44_3, r0, r5]
    exact ⟨_, ⟨rfl, rfl⟩, fun h => by simp [inL] at h⟩
  | m + 1, i, him, ρ, r0, r3, r5 => by
    have hi : i < xs.length := by omega
    have hx := List.getElem?_eq_getElem hi
    have hpt : Vm.part true 2 (i * 2) (gc f xs) = some (.agg [.int .u32 (f xs[i]).v, .int .u32 (f xs[i]).u]) := by rw [part_t (by rw [gc_len]; omega), gc_at hx]
    have hep : elemPtr 2 i (.isl fl (gc f xs) xs.length none) = some (.iptr fl (gc f xs) (i * 2)) := elemPtr_isl hi (by rw [gc_len]; omega)
    have him2 : (i : Int) < (xs.length : Int) := by omega
    have he : eqv KT (.agg [.int .u32 (f xs[i]).v, .int .u32 (f xs[i]).u]) (.agg [.int .u32 v, .int .u32 u]) = some (decide ((f xs[i]).v = v) && decide ((f xs[i]).u = u)) := eqv_kx _ _ _ _
    have hd : inL f (xs.drop i) v u = ((decide ((f xs[i]).v = v) && decide ((f xs[i]).u = u)) || inL f (xs.drop (i + 1)) v u) := by
      rw [List.drop_eq_getElem_cons hi]; rfl
    rw [hd]
    cases hb : (decide ((f xs[i]).v = v) && decide ((f xs[i]).u = u)) with
    | true =>
      rw [hb] at he
      rw [run_loop]
      simp (disch := first | omega | (simp only [rkl]; omega)) only [rk1, rk2, rk3, rk4, rk5, Arg.get, ret1, AV.cells, AV.isCell, addOff, minmaxL, Cap.room, Cap.cut, cutI, isSt, resultOf, Function.comp_apply, Function.comp_def, beq_self_eq_true, if_true, if_false, ite_true, ite_false, reduceCtorEq, bne_self_eq_false, Option.some.injEq, Prod.mk.injEq, ↓reduceIte, Nat.reduceEqDiff, Nat.reduceAdd, Nat.reduceMul, Nat.reduceSub, Nat.reduceLeDiff, Nat.reduceLT, Int.reduceLT, Int.reduceLE, Int.reduceEq, Int.reduceAdd, Int.reduceSub, Int.reduceNeg, Int.reduceToNat, List.mapM_cons, List.mapM_nil, Option.pure_def, Option.bind_eq_bind, eq_self, decide_true, decide_false, l44_7, p44_3, r0, r5, him2]
      rw [drawn (seq_d44_4 _)]
      simp (disch := first | omega | (simp only [rkl]; omega)) only [rk1, rk2, rk3, rk4, rk5, Arg.get, ret1, AV.cells, AV.isCell, addOff, minmaxL, Cap.room, Cap.cut, cutI, isSt, resultOf, Function.comp_apply, Function.comp_def, beq_self_eq_true, if_true, if_false, ite_true, ite_false, reduceCtorEq, bne_self_eq_false, Option.some.injEq, Prod.mk.injEq, ↓reduceIte, Nat.reduceEqDiff, Nat.reduceAdd, Nat.reduceMul, Nat.reduceSub, Nat.reduceLeDiff, Nat.reduceLT, Int.reduceLT, Int.reduceLE, Int.reduceEq, Int.reduceAdd, Int.reduceSub, Int.reduceNeg, Int.reduceToNat, List.mapM_cons, List.mapM_nil, Option.pure_def, Option.bind_eq_bind, eq_self, decide_true, decide_false, d44_4, r0, r3, r5, hep, hpt, hg, he, p44_5, Bool.true_or]
      exact ⟨_, rfl, fun _ => by simp (disch := first | omega | (simp only [rkl]; omega)) only [rk1, rk2, rk3, rk4, rk5, Arg.get, ret1, AV.cells, AV.isCell, addOff, minmaxL, Cap.room, Cap.cut, cutI, isSt, resultOf, Function.comp_apply, Function.comp_def, beq_self_eq_true, if_true, if_false, ite_true, ite_false, reduceCtorEq, bne_self_eq_false, Option.some.injEq, Prod.mk.injEq, ↓reduceIte, Nat.reduceEqDiff, Nat.reduceAdd, Nat.reduceMul, Nat.reduceSub, Nat.reduceLeDiff, Nat.reduceLT, Int.reduceLT, Int.reduceLE, Int.reduceEq, Int.reduceAdd, Int.reduceSub, Int.reduceNeg, Int.reduceToNat, List.mapM_cons, List.mapM_nil, Option.pure_def, Option.bind_eq_bind, eq_self, decide_true, decide_false]⟩
    | false =>
      rw [hb] at he
      have hround : ∃ ρ1, run (tab hsS) l44_7 ρ σ = some (.normal, ρ1, σ) ∧ ρ1 0 = ρ 0 ∧ ρ1 3 = ρ 3 ∧ ρ1 5 = .int .i64 (i + 1 : Nat) := by
        simp (disch := first | omega | (simp only [rkl]; omega)) only [rk1, rk2, rk3, rk4, rk5, Arg.get, ret1, AV.cells, AV.isCell, addOff, minmaxL, Cap.room, Cap.cut, cutI, isSt, resultOf, Function.comp_apply, Function.comp_def, beq_self_eq_true, if_true, if_false, ite_true, ite_false, reduceCtorEq, bne_self_eq_false, Option.some.injEq, Prod.mk.injEq, ↓reduceIte, Nat.reduceEqDiff, Nat.reduceAdd, Nat.reduceMul, Nat.reduceSub, Nat.reduceLeDiff, Nat.reduceLT, Int.reduceLT, Int.reduceLE, Int.reduceEq, Int.reduceAdd, Int.reduceSub, Int.reduceNeg, Int.reduceToNat, List.mapM_cons, List.mapM_nil, Option.pure_def, Option.bind_eq_bind, eq_self, decide_true, decide_false, l44_7, p44_3, r0, r5, him2]
        rw [drawn (seq_d44_4 _)]
        simp (disch := first | omega | (simp only [rkl]; omega)) only [rk1, rk2, rk3, rk4, rk5, Arg.get, ret1, AV.cells, AV.isCell, addOff, minmaxL, Cap.room, Cap.cut, cutI, isSt, resultOf, Function.comp_apply, Function.comp_def, beq_self_eq_true, if_true, if_false, ite_true, ite_false, reduceCtorEq, bne_self_eq_false, Option.some.injEq, Prod.mk.injEq, ↓reduceIte, Nat.reduceEqDiff, Nat.reduceAdd, Nat.reduceMul, Nat.reduceSub, Nat.reduceLeDiff, Nat.reduceLT, Int.reduceLT, Int.reduceLE, Int.reduceEq, Int.reduceAdd, Int.reduceSub, Int.reduceNeg, Int.reduceToNat, List.mapM_cons, List.mapM_nil, Option.pure_def, Option.bind_eq_bind, eq_self, decide_true, decide_false, d44_4, r0, r3, r5, hep, hpt, hg, he, p44_6]
        exact ⟨_, rfl, by simp (disch := first | omega | (simp only [rkl]; omega)) only [rk1, rk2, rk3, rk4, rk5, Arg.get, ret1, AV.cells, AV.isCell, addOff, minmaxL, Cap.room, Cap.cut, cutI, isSt, resultOf, Function.comp_apply, Function.comp_def, beq_self_eq_true, if_true, if_false, ite_true, ite_false, reduceCtorEq, bne_self_eq_false, Option.some.injEq, Prod.mk.injEq, ↓reduceIte, Nat.reduceEqDiff, Nat.reduceAdd, Nat.reduceMul, Nat.reduceSub, Nat.reduceLeDiff, Nat.reduceLT, Int.reduceLT, Int.reduceLE, Int.reduceEq, Int.reduceAdd, Int.reduceSub, Int.reduceNeg, Int.reduceToNat, List.mapM_cons, List.mapM_nil, Option.pure_def, Option.bind_eq_bind, eq_self, decide_true, decide_false, r0], by simp (disch := first | omega | (simp only [rkl]; omega)) only [rk1, rk2, rk3, rk4, rk5, Arg.get, ret1, AV.cells, AV.isCell, addOff, minmaxL, Cap.room, Cap.cut, cutI, isSt, resultOf, Function.comp_apply, Function.comp_def, beq_self_eq_true, if_true, if_false, ite_true, ite_false, reduceCtorEq, bne_self_eq_false, Option.some.injEq, Prod.mk.injEq, ↓reduceIte, Nat.reduceEqDiff, Nat.reduceAdd, Nat.reduceMul, Nat.reduceSub, Nat.reduceLeDiff, Nat.reduceLT, Int.reduceLT, Int.reduceLE, Int.reduceEq, Int.reduceAdd, Int.reduceSub, Int.reduceNeg, Int.reduceToNat, List.mapM_cons, List.mapM_nil, Option.pure_def, Option.bind_eq_bind, eq_self, decide_true, decide_false, r3], by simp (disch := first | omega | (simp only [rkl]; omega)) only [rk1, rk2, rk3, rk4, rk5, Arg.get, ret1, AV.cells, AV.isCell, addOff, minmaxL, Cap.room, Cap.cut, cutI, isSt, resultOf, Function.comp_apply, Function.comp_def, beq_self_eq_true, if_true, if_false, ite_true, ite_false, reduceCtorEq, bne_self_eq_false, Option.some.injEq, Prod.mk.injEq, ↓reduceIte, Nat.reduceEqDiff, Nat.reduceAdd, Nat.reduceMul, Nat.reduceSub, Nat.reduceLeDiff, Nat.reduceLT, Int.reduceLT, Int.reduceLE, Int.reduceEq, Int.reduceAdd, Int.reduceSub, Int.reduceNeg, Int.reduceToNat, List.mapM_cons, List.mapM_nil, Option.pure_def, Option.bind_eq_bind, eq_self, decide_true, decide_false, Int.natCast_add, Int.cast_ofNat_Int]⟩
      obtain ⟨ρ1, e1, q0, q3, q5⟩ := hround
      obtain ⟨ρ2, e2, h2⟩ := in_loop hl hg m (i + 1) (by omega) (q0.trans r0) (q3.trans r3) q5
      rw [run_loop, e1, Bool.false_or]
      exact ⟨ρ2, by simp (disch := first | omega | (simp only [rkl]; omega)) only [rk1, rk2, rk3, rk4, rk5, Arg.get, ret1, AV.cells, AV.isCell, addOff, minmaxL, Cap.room, Cap.cut, cutI, isSt, resultOf, Function.comp_apply, Function.comp_def, beq_self_eq_true, if_true, if_false, ite_true, ite_false, reduceCtorEq, bne_self_eq_false, Option.some.injEq, Prod.mk.injEq, ↓reduceIte, Nat.reduceEqDiff, Nat.reduceAdd, Nat.reduceMul, Nat.reduceSub, Nat.reduceLeDiff, Nat.reduceLT, Int.reduceLT, Int.reduceLE, Int.reduceEq, Int.reduceAdd, Int.reduceSub, Int.reduceNeg, Int.reduceToNat, List.mapM_cons, List.mapM_nil, Option.pure_def, Option.bind_eq_bind, eq_self, decide_true, decide_false]; exact e2, h2⟩

theorem in_pure {xs : List Vm.Id} (hl : xs.length < 2 ^ 40) {h : Hint} : pureOf (run (tab hsS)) ⟨18, 2, code44, [.tmp 4], h⟩ [.isl fl (gc f xs) xs.length none, .agg [.int .u32 v, .int .u32 u]] = some (.bool (inL f xs v u)) := by
  have hz : newCells emptySt [.int .u32 v, .int .u32 u] = some (⟨0, 0, 0⟩, emptySt.new [.int .u32 v, .int .u32 u]) := newCells_ok rfl
  have hg : (emptySt.new [.int .u32 v, .int .u32 u]).get ⟨0, 0, 0⟩ = some [.int .u32 v, .int .u32 u] := by rw [get_new]; exact if_pos rfl
  have key : ∀ (ρ : Env) r, run (tab hsS) (.loop l44_7) ρ (emptySt.new [.int .u32 v, .int .u32 u]) = r → ρ 0 = .isl fl (gc f xs) xs.length none → ρ 3 = .ptr ⟨0, 0, 0⟩ 0 → ρ 5 = .int .i64 0 →
      ∃ ρ', r = some (if inL f xs v u then .ret else .exit 0, ρ', emptySt.new [.int .u32 v, .int .u32 u]) ∧ (inL f xs v u = true → ρ' 4 = .bool true) := by
    intro ρ r hr r0 r3 r5
    subst hr
    have := in_loop (f := f) (fl := fl) hl hg xs.length 0 (by omega) r0 r3 r5
    simpa using this
  simp (disch := first | omega | (simp only [rkl]; omega)) only [rk1, rk2, rk3, rk4, rk5, Arg.get, ret1, AV.cells, AV.isCell, addOff, minmaxL, Cap.room, Cap.cut, cutI, isSt, resultOf, Function.comp_apply, Function.comp_def, beq_self_eq_true, if_true, if_false, ite_true, ite_false, reduceCtorEq, bne_self_eq_false, Option.some.injEq, Prod.mk.injEq, ↓reduceIte, Nat.reduceEqDiff, Nat.reduceAdd, Nat.reduceMul, Nat.reduceSub, Nat.reduceLeDiff, Nat.reduceLT, Int.reduceLT, Int.reduceLE, Int.reduceEq, Int.reduceAdd, Int.reduceSub, Int.reduceNeg, Int.reduceToNat, List.mapM_cons, List.mapM_nil, Option.pure_def, Option.bind_eq_bind, eq_self, decide_true, decide_false, code44, p44_1, p44_2, hz]
  generalize hr : run (tab hsS) (.loop l44_7) _ _ = r
  obtain ⟨ρ', rfl, q4⟩ := key _ _ hr (by simp (disch := first | omega | (simp only [rkl]; omega)) only [rk1, rk2, rk3, rk4, rk5, Arg.get, ret1, AV.cells, AV.isCell, addOff, minmaxL, Cap.room, Cap.cut, cutI, isSt, resultOf, Function.comp_apply, Function.comp_def, beq_self_eq_true, if_true, if_false, ite_true, ite_false, reduceCtorEq, bne_self_eq_false, Option.some.injEq, Prod.mk.injEq, ↓reduceIte, Nat.reduceEqDiff, Nat.reduceAdd, Nat.reduceMul, Nat.reduceSub, Nat.reduceLeDiff, Nat.reduceLT, Int.reduceLT, Int.reduceLE, Int.reduceEq, Int.reduceAdd, Int.reduceSub, Int.reduceNeg, Int.reduceToNat, List.mapM_cons, List.mapM_nil, Option.pure_def, Option.bind_eq_bind, eq_self, decide_true, decide_false]) (by simp (disch := first | omega | (simp only [rkl]; omega)) only [rk1, rk2, rk3, rk4, rk5, Arg.get, ret1, AV.cells, AV.isCell, addOff, minmaxL, Cap.room, Cap.cut, cutI, isSt, resultOf, Function.comp_apply, Function.comp_def, beq_self_eq_true, if_true, if_false, ite_true, ite_false, reduceCtorEq, bne_self_eq_false, Option.some.injEq, Prod.mk.injEq, ↓reduceIte, Nat.reduceEqDiff, Nat.reduceAdd, Nat.reduceMul, Nat.reduceSub, Nat.reduceLeDiff, Nat.reduceLT, Int.reduceLT, Int.reduceLE, Int.reduceEq, Int.reduceAdd, Int.reduceSub, Int.reduceNeg, Int.reduceToNat, List.mapM_cons, List.mapM_nil, Option.pure_def, Option.bind_eq_bind, eq_self, decide_true, decide_false]) (by simp (disch := first | omega | (simp only [rkl]; omega)) only [rk1, rk2, rk3, rk4, rk5, Arg.get, ret1, AV.cells, AV.isCell, addOff, minmaxL, Cap.room, Cap.cut, cutI, isSt, resultOf, Function.comp_apply, Function.comp_def, beq_self_eq_true, if_true, if_false, ite_true, ite_false, reduceCtorEq, bne_self_eq_false, Option.some.injEq, Prod.mk.injEq, ↓reduceIte, Nat.reduceEqDiff, Nat.reduceAdd, Nat.reduceMul, Nat.reduceSub, Nat.reduceLeDiff, Nat.reduceLT, Int.reduceLT, Int.reduceLE, Int.reduceEq, Int.reduceAdd, Int.reduceSub, Int.reduceNeg, Int.reduceToNat, List.mapM_cons, List.mapM_nil, Option.pure_def, Option.bind_eq_bind, eq_self, decide_true, decide_false])
  cases hb : inL f xs v u with
  | true =>
    have q4 := q4 hb
    simp (disch := first | omega | (simp only [rkl]; omega)) only [rk1, rk2, rk3, rk4, rk5, Arg.get, ret1, AV.cells, AV.isCell, addOff, minmaxL, Cap.room, Cap.cut, cutI, isSt, resultOf, Function.comp_apply, Function.comp_def, beq_self_eq_true, if_true, if_false, ite_true, ite_false, reduceCtorEq, bne_self_eq_false, Option.some.injEq, Prod.mk.injEq, ↓reduceIte, Nat.reduceEqDiff, Nat.reduceAdd, Nat.reduceMul, Nat.reduceSub, Nat.reduceLeDiff, Nat.reduceLT, Int.reduceLT, Int.reduceLE, Int.reduceEq, Int.reduceAdd, Int.reduceSub, Int.reduceNeg, Int.reduceToNat, List.mapM_cons, List.mapM_nil, Option.pure_def, Option.bind_eq_bind, eq_self, decide_true, decide_false, q4]
  | false => simp (disch := first | omega | (simp only [rkl]; omega)) only [rk1, rk2, rk3, rk4, rk5, Arg.get, ret1, AV.cells, AV.isCell, addOff, minmaxL, Cap.room, Cap.cut, cutI, isSt, resultOf, Function.comp_apply, Function.comp_def, beq_self_eq_true, if_true, if_false, ite_true, ite_false, reduceCtorEq, bne_self_eq_false, Option.some.injEq, Prod.mk.injEq, ↓reduceIte, Nat.reduceEqDiff, Nat.reduceAdd, Nat.reduceMul, Nat.reduceSub, Nat.reduceLeDiff, Nat.reduceLT, Int.reduceLT, Int.reduceLE, Int.reduceEq, Int.reduceAdd, Int.reduceSub, Int.reduceNeg, Int.reduceToNat, List.mapM_cons, List.mapM_nil, Option.pure_def, Option.bind_eq_bind, eq_self, decide_true, decide_false, p44_8]

theorem in_ev {σ : St} {a : AV} {xs : List Vm.Id} (O : OutL σ f a xs) (hl : xs.length < 2 ^ 40) : ev (tab hsS) 44 [a, .agg [.int .u32 v, .int .u32 u]] σ = some (.bool (inL f xs v u), σ) := by
  have hs : ∃ fl, snap σ 7 a = some (.isl fl (gc f xs) xs.length none) := by
    rcases O with ⟨rfl, rfl⟩ | ⟨G, rfl, hg⟩
    · exact ⟨false, rfl⟩
    · refine ⟨true, ?_⟩
      have hm : (gc f xs).mapM (Vm.snap σ 6) = some (gc f xs) := mapM_id fun y hy => by
        simp only [gc, List.mem_flatMap] at hy
        obtain ⟨x, _, hy⟩ := hy
        simp at hy
        rcases hy with rfl | rfl <;> rfl
      rw [snap_sl, hg]
      simp only [Option.bind_some, List.drop_zero, Nat.zero_add]
      rw [if_pos (by rw [gc_len]; exact Nat.le_refl _), List.take_of_length_le (by rw [gc_len]; exact Nat.le_refl _), hm]; rfl
  obtain ⟨fl, hs⟩ := hs
  exact pure_ev (tab44 hsS) (snaps_cons hs (snaps_cons rfl (snaps_nil _))) (in_pure hl)
end
/-
  THE SHELF's laws: calls that are handed in; lists of what is there.
-/

theorem awake41 (σ : St) : ev (tab hsS) 41 [] σ = some (.bool true, σ) := rfl

theorem mod_small (a : Int) (m : Nat) (h0 : 0 < m) (h1 : m < 2 ^ 31) : ∃ t : Nat, t < m ∧ IntKind.i64.wrap ((IntKind.u64.wrap a).tmod m) = t := by
  have hw : 0 ≤ IntKind.u64.wrap a := by
    show 0 ≤ a % 18446744073709551616
    exact Int.emod_nonneg _ (by decide)
  have h2 : 0 ≤ (IntKind.u64.wrap a).tmod m := Int.tmod_nonneg _ hw
  have h3 : (IntKind.u64.wrap a).tmod m < m := Int.tmod_lt_of_pos _ (by omega)
  refine ⟨((IntKind.u64.wrap a).tmod m).toNat, by omega, ?_⟩
  rw [wrap_i64 (by omega) (by omega)]; omega

/-- A call of the script. -/
structure Sc where
  kind : Int
  v : Int
  u : Int
  sz : Int
  us : Int
  c : Bool
def scc (x : Sc) : List AV := [.int .i64 x.kind, .int .u32 x.v, .int .u32 x.u, .int .i64 x.sz, .int .i64 x.us, .bool x.c]
def scs (l : List Sc) : List AV := l.flatMap scc
theorem scs_len : ∀ l : List Sc, (scs l).length = l.length * 6
  | [] => rfl
  | x :: l => by
    have := scs_len l
    simp only [scs, List.flatMap_cons, List.length_append, List.length_cons] at this ⊢
    rw [this]; simp [scc]; omega
theorem scs_at : ∀ {l : List Sc} {i : Nat} {x : Sc}, l[i]? = some x → ((scs l).drop (i * 6)).take 6 = scc x
  | y :: l, 0, x, hx => by
    simp only [List.getElem?_cons_zero, Option.some.injEq] at hx; subst hx
    rw [scs, List.flatMap_cons, Nat.zero_mul, List.drop_zero]
    exact List.take_left' rfl
  | y :: l, i + 1, x, hx => by
    rw [scs, List.flatMap_cons, Nat.add_mul, Nat.one_mul, Nat.add_comm, ← List.drop_drop]
    show List.take 6 (List.drop (i * 6) (scs l)) = _
    exact scs_at (l := l) (by simpa using hx)

/-- One that is there. -/
structure Rw where
  k : Ky
  c : Bool
def rwc (r : Rw) : List AV := [.int .u32 r.k.v, .int .u32 r.k.u, .int .i64 r.k.sz, .int .i64 r.k.us, .bool r.c]
def rws (l : List Rw) : List AV := l.flatMap rwc
theorem rws_len : ∀ l : List Rw, (rws l).length = l.length * 5
  | [] => rfl
  | x :: l => by
    have := rws_len l
    simp only [rws, List.flatMap_cons, List.length_append, List.length_cons] at this ⊢
    rw [this]; simp [rwc]; omega
theorem rws_at : ∀ {l : List Rw} {i : Nat} {x : Rw} {junk : List AV}, l[i]? = some x → ((rws l ++ junk).drop (i * 5)).take 5 = rwc x
  | y :: l, 0, x, junk, hx => by
    simp only [List.getElem?_cons_zero, Option.some.injEq] at hx; subst hx
    rw [rws, List.flatMap_cons, Nat.zero_mul, List.drop_zero]
    rfl
  | y :: l, i + 1, x, junk, hx => by
    rw [rws, List.flatMap_cons, Nat.add_mul, Nat.one_mul, Nat.add_comm, ← List.drop_drop]
    show List.take 5 (List.drop (i * 5) (rws l ++ junk)) = _
    exact rws_at (l := l) (by simpa using hx)
theorem rws_app (a b : List Rw) : rws (a ++ b) = rws a ++ rws b := by simp [rws]
theorem rws_cell (l : List Rw) : (rws l).all AV.isCell = true := by
  simp only [rws, List.all_eq_true, List.mem_flatMap]
  rintro y ⟨x, _, hy⟩
  simp [rwc] at hy
  rcases hy with rfl | rfl | rfl | rfl | rfl <;> rfl

/-- The list of what is there. -/
def HavL (σ : St) (a : AV) (rows : List Rw) : Prop := (a = .nilsl ∧ rows = []) ∨ ∃ (G : Vm.Id) (cap : Cap) (junk : List AV), a = .sl G 0 rows.length cap 5 ∧ cap.room = rows.length ∧ σ.get G = some (rws rows ++ junk)

theorem HavL.keep {σ σ' : St} {a : AV} {rows : List Rw} (h : HavL σ a rows) (hg : ∀ G, refId a = some G → σ'.get G = σ.get G) : HavL σ' a rows := by
  rcases h with h | ⟨G, cap, junk, rfl, h1, h2⟩
  · exact .inl h
  · exact .inr ⟨G, cap, junk, rfl, h1, (hg G rfl).trans h2⟩
theorem HavL.len {σ : St} {a : AV} {rows : List Rw} (h : HavL σ a rows) (s : St) : lenIn s .sl a = some rows.length := by
  rcases h with ⟨rfl, rfl⟩ | ⟨G, cap, junk, rfl, _⟩ <;> rfl
theorem OutL.len {σ : St} {f : Vm.Id → Ky} {a : AV} {xs : List Vm.Id} (h : OutL σ f a xs) (s : St) : lenIn s .sl a = some xs.length := by
  rcases h with ⟨rfl, rfl⟩ | ⟨G, rfl, _⟩ <;> rfl

theorem app_row {s : St} {a : AV} {rows : List Rw} (h : HavL s a rows) (few : rows.length < 2 ^ 30) (r : Rw) :
    ∃ s', appendTo s 5 32 1 (rwc r) a = some (.sl ⟨s.next, 0, 0⟩ 0 (rows.length + 1) (.ge (rows.length + 1)) 5, s') ∧ s'.get ⟨s.next, 0, 0⟩ = some (rws (rows ++ [r])) ∧ s'.next = s.next + 1 ∧ s'.ver = s.ver ∧ (∀ q, q.o < s.next → refId a ≠ some q → s'.heap q = s.heap q) := by
  have e1 : rws [r] = rwc r := by simp [rws]
  have hc1 : (rwc r).all AV.isCell = true := rfl
  rcases h with ⟨rfl, rfl⟩ | ⟨G, cap, junk, rfl, hr, hg⟩
  · refine ⟨s.new (rwc r), ?_, by rw [get_new, if_pos rfl]; simp [rws], rfl, rfl, fun q hq _ => (Frm.new s _ (fun _ => False)).heap q hq (fun h => h)⟩
    rw [append_nil' (by omega) (by decide) hc1]; rfl
  · have hmx : (rows.length + 1) * 32 ≤ lenMax := by have : lenMax = 2 ^ 46 := rfl; omega
    have e : List.take (rows.length * 5) (List.drop 0 (rws rows ++ junk)) ++ rwc r = rws (rows ++ [r]) := by
      rw [List.drop_zero, List.take_left' (rws_len rows), rws_app, e1]
    cases cap with
    | ex c =>
      refine ⟨s.new (rws (rows ++ [r])), ?_, by rw [get_new]; exact if_pos rfl, rfl, rfl, fun q hq _ => (Frm.new s _ (fun _ => False)).heap q hq (fun h => h)⟩
      simp only [Cap.room] at hr; subst hr
      simp only [appendTo, hg, Cap.room]
      rw [if_neg (by simp), if_neg (by omega), if_pos ⟨by rw [List.length_append, rws_len]; omega, hmx⟩, e, newCells_ok (rws_cell _)]
      rfl
    | ge c =>
      refine ⟨(s.set G none).new (rws (rows ++ [r])), ?_, by rw [get_new]; exact if_pos rfl, rfl, rfl, fun q hq hne => ?_⟩
      · simp only [Cap.room] at hr; subst hr
        simp only [appendTo, hg, Cap.room]
        rw [if_neg (by simp), if_neg (by omega), if_pos ⟨by rw [List.length_append, rws_len]; omega, hmx⟩, e, newCells_ok (rws_cell _)]
        rfl
      · have e1 : q ≠ G := fun e => hne (by simp [refId, e])
        have e2 : ¬ (q = ⟨s.next, 0, 0⟩) := fun e => by subst e; simp at hq
        simp [St.new, St.set, e1, e2]

theorem Rep.lF {σ : St} {S M : Vm.Id} {bud : Int} {L H : List Vm.Id} {f : Vm.Id → Ky} {cc : AV} (R : Rep σ S M bud L H f cc) : ∀ q, Fp S M L cc q → q.o < σ.next := by
  rintro q (rfl | rfl | hq | hq)
  · exact R.lS
  · exact R.lM
  · exact R.lL q hq
  · exact R.hc.lb q hq
/-
  ShelfKeeps: things are put.
-/

def rowsOf (f : Vm.Id → Ky) (cl : Vm.Id → Bool) (L : List Vm.Id) : List Rw := L.map fun x => ⟨f x, cl x⟩
theorem rowsOf_len (f : Vm.Id → Ky) (cl : Vm.Id → Bool) (L : List Vm.Id) : (rowsOf f cl L).length = L.length := by simp [rowsOf]
theorem rowsOf_cong {f g : Vm.Id → Ky} {cl cl2 : Vm.Id → Bool} {L : List Vm.Id} (h : ∀ x ∈ L, f x = g x ∧ cl x = cl2 x) : rowsOf f cl L = rowsOf g cl2 L := by
  unfold rowsOf
  exact List.map_congr_left fun x hx => by rw [(h x hx).1, (h x hx).2]

structure Inv7 (ρ : Env) (σ : St) (S M : Vm.Id) (bud : Int) (i : Nat) (l : List Sc) (L H : List Vm.Id) (f : Vm.Id → Ky) (cl : Vm.Id → Bool) (cc a : AV) : Prop where
  R : Rep σ S M bud L H f cc
  O : HavL σ a (rowsOf f cl L)
  la : ∀ G, refId a = some G → G.o < σ.next ∧ ¬ Fp S M L cc G
  hcl : ∀ x ∈ L, x ∈ H ↔ cl x = true
  r0 : ρ 0 = .int .i64 bud
  r1 : ρ 1 = .isl false (scs l) l.length none
  r5 : ρ 5 = .ptr S 0
  r7 : ρ 7 = a
  r8 : ρ 8 = .int .i64 i
  few : L.length ≤ i

def Next7 (S M : Vm.Id) (bud : Int) (i : Nat) (l : List Sc) (r : Option (Ex × Env × St)) : Prop := ∃ ρ σ L H f cl cc a, r = some (.normal, ρ, σ) ∧ Inv7 ρ σ S M bud i l L H f cl cc a
theorem next7_mk {ρ : Env} {σ : St} {S M : Vm.Id} {bud : Int} {i : Nat} {l : List Sc} {L H : List Vm.Id} {f : Vm.Id → Ky} {cl : Vm.Id → Bool} {cc a : AV} (h : Inv7 ρ σ S M bud i l L H f cl cc a) : Next7 S M bud i l (some (.normal, ρ, σ)) :=
  ⟨_, _, _, _, _, _, _, _, rfl, h⟩

def bPut : C := .seq (.ops p7_11) (.cond (.t 62) (.ops p7_12) .skip)
theorem l7_14_eq : l7_14 = .seq (.seq (.ops p7_8) (.cond (.t 41) .skip (.exit 0))) (.seq (.block 1 (.seq (.ops p7_9) (.seq (.ops p7_10) bPut))) (.ops p7_13)) := rfl

theorem sz_fill (v u sz us : Int) (c : Bool) : fillV [.int .u32 0, .int .u32 0, .int .i64 0, .int .i64 0, .bool false] [(0, 2, [.int .u32 v, .int .u32 u]), (2, 1, [.int .i64 sz]), (3, 1, [.int .i64 us]), (4, 1, [.bool c])] = some (rwc ⟨⟨v, u, sz, us⟩, c⟩) := rfl
theorem row_fill (r : Rw) : fillV [.int .u32 0, .int .u32 0, .int .i64 0, .int .i64 0, .bool false] [(0, 5, rwc r)] = some (rwc r) := rfl

/-- What the body of a round comes to. -/
structure Mid7 (ρ ρ' : Env) (σ' : St) (S M : Vm.Id) (bud : Int) (n : Nat) (L H : List Vm.Id) (f : Vm.Id → Ky) (cl : Vm.Id → Bool) (cc a : AV) : Prop where
  R : Rep σ' S M bud L H f cc
  O : HavL σ' a (rowsOf f cl L)
  la : ∀ G, refId a = some G → G.o < σ'.next ∧ ¬ Fp S M L cc G
  hcl : ∀ x ∈ L, x ∈ H ↔ cl x = true
  r0 : ρ' 0 = ρ 0
  r1 : ρ' 1 = ρ 1
  r5 : ρ' 5 = ρ 5
  r7 : ρ' 7 = a
  r8 : ρ' 8 = ρ 8
  few : L.length ≤ n + 1

theorem bPut_ok {ρ : Env} {σ : St} {S M : Vm.Id} {bud : Int} {L H : List Vm.Id} {f : Vm.Id → Ky} {cl : Vm.Id → Bool} {cc a : AV} {r : Option (Ex × Env × St)} (hr : run (tab hsS) bPut ρ σ = r) (R : Rep σ S M bud L H f cc) (O : HavL σ a (rowsOf f cl L))
    (la : ∀ G, refId a = some G → G.o < σ.next ∧ ¬ Fp S M L cc G) (hcl : ∀ x ∈ L, x ∈ H ↔ cl x = true) (few : L.length < 1000) {x : Sc} {q : Vm.Id} {n : Nat} (hn : n ≤ 1048576) (hq : σ.get q = some (scc x)) (lq : q.o < σ.next) (nq : ¬ Fp S M L cc q) (qa : refId a ≠ some q)
    (r5 : ρ 5 = .ptr S 0) (r7 : ρ 7 = a) (r9 : ρ 9 = .ptr q 0) (r10 : ρ 10 = .int .i64 n) :
    ∃ ρ' σ' L' H' f' cl' cc' a', r = some (.normal, ρ', σ') ∧ Mid7 ρ ρ' σ' S M bud L.length L' H' f' cl' cc' a' := by
  subst hr
  cases hp : posOf (kf f) L x.v x.u with
  | some j =>
    obtain ⟨σ1, e1, f1⟩ := put_twice R (sz := n) (by omega) hp x.us x.c
    have hn1 := f1.next
    have hrun : ∃ ρ', run (tab hsS) bPut ρ σ = some (.normal, ρ', σ1) ∧ ρ' 0 = ρ 0 ∧ ρ' 1 = ρ 1 ∧ ρ' 5 = ρ 5 ∧ ρ' 7 = ρ 7 ∧ ρ' 8 = ρ 8 := by
      simp (disch := first | omega | (simp only [rkl]; omega)) only [rk1, rk2, rk3, rk4, rk5, Arg.get, ret1, AV.cells, AV.isCell, addOff, minmaxL, Cap.room, Cap.cut, cutI, isSt, resultOf, Function.comp_apply, Function.comp_def, beq_self_eq_true, if_true, if_false, ite_true, ite_false, reduceCtorEq, bne_self_eq_false, Option.some.injEq, Prod.mk.injEq, ↓reduceIte, Nat.reduceEqDiff, Nat.reduceAdd, Nat.reduceMul, Nat.reduceSub, Nat.reduceLeDiff, Nat.reduceLT, Int.reduceLT, Int.reduceLE, Int.reduceEq, Int.reduceAdd, Int.reduceSub, Int.reduceNeg, Int.reduceToNat, List.mapM_cons, List.mapM_nil, Option.pure_def, Option.bind_eq_bind, eq_self, decide_true, decide_false, bPut, p7_11, r5, r9, r10, hq, scc, e1]
      exact ⟨_, rfl, by simp (disch := first | omega | (simp only [rkl]; omega)) only [rk1, rk2, rk3, rk4, rk5, Arg.get, ret1, AV.cells, AV.isCell, addOff, minmaxL, Cap.room, Cap.cut, cutI, isSt, resultOf, Function.comp_apply, Function.comp_def, beq_self_eq_true, if_true, if_false, ite_true, ite_false, reduceCtorEq, bne_self_eq_false, Option.some.injEq, Prod.mk.injEq, ↓reduceIte, Nat.reduceEqDiff, Nat.reduceAdd, Nat.reduceMul, Nat.reduceSub, Nat.reduceLeDiff, Nat.reduceLT, Int.reduceLT, Int.reduceLE, Int.reduceEq, Int.reduceAdd, Int.reduceSub, Int.reduceNeg, Int.reduceToNat, List.mapM_cons, List.mapM_nil, Option.pure_def, Option.bind_eq_bind, eq_self, decide_true, decide_false], by simp (disch := first | omega | (simp only [rkl]; omega)) only [rk1, rk2, rk3, rk4, rk5, Arg.get, ret1, AV.cells, AV.isCell, addOff, minmaxL, Cap.room, Cap.cut, cutI, isSt, resultOf, Function.comp_apply, Function.comp_def, beq_self_eq_true, if_true, if_false, ite_true, ite_false, reduceCtorEq, bne_self_eq_false, Option.some.injEq, Prod.mk.injEq, ↓reduceIte, Nat.reduceEqDiff, Nat.reduceAdd, Nat.reduceMul, Nat.reduceSub, Nat.reduceLeDiff, Nat.reduceLT, Int.reduceLT, Int.reduceLE, Int.reduceEq, Int.reduceAdd, Int.reduceSub, Int.reduceNeg, Int.reduceToNat, List.mapM_cons, List.mapM_nil, Option.pure_def, Option.bind_eq_bind, eq_self, decide_true, decide_false], by simp (disch := first | omega | (simp only [rkl]; omega)) only [rk1, rk2, rk3, rk4, rk5, Arg.get, ret1, AV.cells, AV.isCell, addOff, minmaxL, Cap.room, Cap.cut, cutI, isSt, resultOf, Function.comp_apply, Function.comp_def, beq_self_eq_true, if_true, if_false, ite_true, ite_false, reduceCtorEq, bne_self_eq_false, Option.some.injEq, Prod.mk.injEq, ↓reduceIte, Nat.reduceEqDiff, Nat.reduceAdd, Nat.reduceMul, Nat.reduceSub, Nat.reduceLeDiff, Nat.reduceLT, Int.reduceLT, Int.reduceLE, Int.reduceEq, Int.reduceAdd, Int.reduceSub, Int.reduceNeg, Int.reduceToNat, List.mapM_cons, List.mapM_nil, Option.pure_def, Option.bind_eq_bind, eq_self, decide_true, decide_false, r5], by simp (disch := first | omega | (simp only [rkl]; omega)) only [rk1, rk2, rk3, rk4, rk5, Arg.get, ret1, AV.cells, AV.isCell, addOff, minmaxL, Cap.room, Cap.cut, cutI, isSt, resultOf, Function.comp_apply, Function.comp_def, beq_self_eq_true, if_true, if_false, ite_true, ite_false, reduceCtorEq, bne_self_eq_false, Option.some.injEq, Prod.mk.injEq, ↓reduceIte, Nat.reduceEqDiff, Nat.reduceAdd, Nat.reduceMul, Nat.reduceSub, Nat.reduceLeDiff, Nat.reduceLT, Int.reduceLT, Int.reduceLE, Int.reduceEq, Int.reduceAdd, Int.reduceSub, Int.reduceNeg, Int.reduceToNat, List.mapM_cons, List.mapM_nil, Option.pure_def, Option.bind_eq_bind, eq_self, decide_true, decide_false], by simp (disch := first | omega | (simp only [rkl]; omega)) only [rk1, rk2, rk3, rk4, rk5, Arg.get, ret1, AV.cells, AV.isCell, addOff, minmaxL, Cap.room, Cap.cut, cutI, isSt, resultOf, Function.comp_apply, Function.comp_def, beq_self_eq_true, if_true, if_false, ite_true, ite_false, reduceCtorEq, bne_self_eq_false, Option.some.injEq, Prod.mk.injEq, ↓reduceIte, Nat.reduceEqDiff, Nat.reduceAdd, Nat.reduceMul, Nat.reduceSub, Nat.reduceLeDiff, Nat.reduceLT, Int.reduceLT, Int.reduceLE, Int.reduceEq, Int.reduceAdd, Int.reduceSub, Int.reduceNeg, Int.reduceToNat, List.mapM_cons, List.mapM_nil, Option.pure_def, Option.bind_eq_bind, eq_self, decide_true, decide_false]⟩
    obtain ⟨ρ', hr, q0, q1, q5, q7, q8⟩ := hrun
    exact ⟨ρ', σ1, L, H, f, cl, cc, a, hr, R.frm f1 (fun _ _ h => h), O.keep fun G hG => f1.get (la G hG).1 (fun h => h), fun G hG => ⟨by have := (la G hG).1; omega, (la G hG).2⟩, hcl, q0, q1, q5, q7.trans r7, q8, by omega⟩
  | none =>
    obtain ⟨σ1, X, cc1, e1, R1, f1, XL, lX, hw⟩ := put_ok R (sz := n) (by omega) hp x.us x.c (by omega)
    have hn1 := f1.next
    have hq1 : σ1.get q = some (scc x) := (f1.get lq nq).trans hq
    let f' := upd f X ⟨x.v, x.u, n, x.us⟩
    let cl' : Vm.Id → Bool := fun z => if z = X then x.c else cl z
    have hrows : rowsOf f cl L = rowsOf f' cl' L := rowsOf_cong fun y hy => by
      have : y ≠ X := fun e => XL (e ▸ hy)
      exact ⟨(upd_other this).symm, by simp [cl', this]⟩
    have hrows2 : rowsOf f' cl' (L ++ [X]) = rowsOf f cl L ++ [⟨⟨x.v, x.u, n, x.us⟩, x.c⟩] := by
      rw [hrows]; simp [rowsOf, f', cl', upd_same]
    have O1 : HavL (σ1.new (rwc ⟨⟨x.v, x.u, n, x.us⟩, x.c⟩)) a (rowsOf f cl L) := O.keep fun G hG => by
      rw [new_get (by have := (la G hG).1; omega)]; exact f1.get (la G hG).1 (la G hG).2
    obtain ⟨σ3, e3, g3, n3, v3, h3⟩ := app_row O1 (by rw [rowsOf_len]; omega) ⟨⟨x.v, x.u, n, x.us⟩, x.c⟩
    have n2 : (σ1.new (rwc ⟨⟨x.v, x.u, n, x.us⟩, x.c⟩)).next = σ1.next + 1 := rfl
    rw [n2] at e3 g3
    have hz : newCells σ1 (rwc ⟨⟨x.v, x.u, n, x.us⟩, x.c⟩) = some (⟨σ1.next, 0, 0⟩, σ1.new (rwc ⟨⟨x.v, x.u, n, x.us⟩, x.c⟩)) := newCells_ok rfl
    have hel : elems (σ1.new (rwc ⟨⟨x.v, x.u, n, x.us⟩, x.c⟩)) 5 1 (.sl ⟨σ1.next, 0, 0⟩ 0 1 (.ex 1) 5) = some (rwc ⟨⟨x.v, x.u, n, x.us⟩, x.c⟩) := by
      have : (σ1.new (rwc ⟨⟨x.v, x.u, n, x.us⟩, x.c⟩)).get ⟨σ1.next, 0, 0⟩ = some (rwc ⟨⟨x.v, x.u, n, x.us⟩, x.c⟩) := by rw [get_new, if_pos rfl]
      simp only [elems, this]; rfl
    have lF1 := R1.lF
    have heap3 : ∀ z, z.o < σ1.next → refId a ≠ some z → σ3.heap z = σ1.heap z := fun z hz hne => by
      rw [h3 z (by rw [n2]; omega) hne]
      exact (Frm.new σ1 _ (fun _ => False)).heap z hz (fun h => h)
    have R3 : Rep σ3 S M bud (L ++ [X]) (if x.c then upL ltK f' (H ++ [X]) H.length else H) f' cc1 := by
      refine R1.frm (F := fun z => refId a = some z) ⟨by rw [n3, n2]; omega, v3, fun z hz hne => heap3 z hz hne⟩ fun z hz e => ?_
      have h1 := la z e
      rcases hw z hz with h | h
      · exact h1.2 h
      · omega
    have hfv := sz_fill x.v x.u n x.us x.c
    have hrun : ∃ ρ', run (tab hsS) bPut ρ σ = some (.normal, ρ', σ3) ∧ ρ' 0 = ρ 0 ∧ ρ' 1 = ρ 1 ∧ ρ' 5 = ρ 5 ∧ ρ' 7 = .sl ⟨σ1.next + 1, 0, 0⟩ 0 ((rowsOf f cl L).length + 1) (.ge ((rowsOf f cl L).length + 1)) 5 ∧ ρ' 8 = ρ 8 := by
      have hq' := hq
      have hq1' := hq1
      simp only [scc] at hq' hq1'
      have hrf := row_fill ⟨⟨x.v, x.u, n, x.us⟩, x.c⟩
      generalize rwc ⟨⟨x.v, x.u, n, x.us⟩, x.c⟩ = cells at *
      simp (disch := first | omega | (simp only [rkl]; omega)) only [rk1, rk2, rk3, rk4, rk5, Arg.get, ret1, AV.cells, AV.isCell, addOff, minmaxL, Cap.room, Cap.cut, cutI, isSt, resultOf, Function.comp_apply, Function.comp_def, beq_self_eq_true, if_true, if_false, ite_true, ite_false, reduceCtorEq, bne_self_eq_false, Option.some.injEq, Prod.mk.injEq, ↓reduceIte, Nat.reduceEqDiff, Nat.reduceAdd, Nat.reduceMul, Nat.reduceSub, Nat.reduceLeDiff, Nat.reduceLT, Int.reduceLT, Int.reduceLE, Int.reduceEq, Int.reduceAdd, Int.reduceSub, Int.reduceNeg, Int.reduceToNat, List.mapM_cons, List.mapM_nil, Option.pure_def, Option.bind_eq_bind, eq_self, decide_true, decide_false, bPut, p7_11, p7_12, r5, r7, r9, r10, hq', hq1', e1, hfv, hrf, hz, hel, e3]
      exact ⟨_, rfl, by simp (disch := first | omega | (simp only [rkl]; omega)) only [rk1, rk2, rk3, rk4, rk5, Arg.get, ret1, AV.cells, AV.isCell, addOff, minmaxL, Cap.room, Cap.cut, cutI, isSt, resultOf, Function.comp_apply, Function.comp_def, beq_self_eq_true, if_true, if_false, ite_true, ite_false, reduceCtorEq, bne_self_eq_false, Option.some.injEq, Prod.mk.injEq, ↓reduceIte, Nat.reduceEqDiff, Nat.reduceAdd, Nat.reduceMul, Nat.reduceSub, Nat.reduceLeDiff, Nat.reduceLT, Int.reduceLT, Int.reduceLE, Int.reduceEq, Int.reduceAdd, Int.reduceSub, Int.reduceNeg, Int.reduceToNat, List.mapM_cons, List.mapM_nil, Option.pure_def, Option.bind_eq_bind, eq_self, decide_true, decide_false], by simp (disch := first | omega | (simp only [rkl]; omega)) only [rk1, rk2, rk3, rk4, rk5, Arg.get, ret1, AV.cells, AV.isCell, addOff, minmaxL, Cap.room, Cap.cut, cutI, isSt, resultOf, Function.comp_apply, Function.comp_def, beq_self_eq_true, if_true, if_false, ite_true, ite_false, reduceCtorEq, bne_self_eq_false, Option.some.injEq, Prod.mk.injEq, ↓reduceIte, Nat.reduceEqDiff, Nat.reduceAdd, Nat.reduceMul, Nat.reduceSub, Nat.reduceLeDiff, Nat.reduceLT, Int.reduceLT, Int.reduceLE, Int.reduceEq, Int.reduceAdd, Int.reduceSub, Int.reduceNeg, Int.reduceToNat, List.mapM_cons, List.mapM_nil, Option.pure_def, Option.bind_eq_bind, eq_self, decide_true, decide_false], by simp (disch := first | omega | (simp only [rkl]; omega)) only [rk1, rk2, rk3, rk4, rk5, Arg.get, ret1, AV.cells, AV.isCell, addOff, minmaxL, Cap.room, Cap.cut, cutI, isSt, resultOf, Function.comp_apply, Function.comp_def, beq_self_eq_true, if_true, if_false, ite_true, ite_false, reduceCtorEq, bne_self_eq_false, Option.some.injEq, Prod.mk.injEq, ↓reduceIte, Nat.reduceEqDiff, Nat.reduceAdd, Nat.reduceMul, Nat.reduceSub, Nat.reduceLeDiff, Nat.reduceLT, Int.reduceLT, Int.reduceLE, Int.reduceEq, Int.reduceAdd, Int.reduceSub, Int.reduceNeg, Int.reduceToNat, List.mapM_cons, List.mapM_nil, Option.pure_def, Option.bind_eq_bind, eq_self, decide_true, decide_false, r5], by simp (disch := first | omega | (simp only [rkl]; omega)) only [rk1, rk2, rk3, rk4, rk5, Arg.get, ret1, AV.cells, AV.isCell, addOff, minmaxL, Cap.room, Cap.cut, cutI, isSt, resultOf, Function.comp_apply, Function.comp_def, beq_self_eq_true, if_true, if_false, ite_true, ite_false, reduceCtorEq, bne_self_eq_false, Option.some.injEq, Prod.mk.injEq, ↓reduceIte, Nat.reduceEqDiff, Nat.reduceAdd, Nat.reduceMul, Nat.reduceSub, Nat.reduceLeDiff, Nat.reduceLT, Int.reduceLT, Int.reduceLE, Int.reduceEq, Int.reduceAdd, Int.reduceSub, Int.reduceNeg, Int.reduceToNat, List.mapM_cons, List.mapM_nil, Option.pure_def, Option.bind_eq_bind, eq_self, decide_true, decide_false], by simp (disch := first | omega | (simp only [rkl]; omega)) only [rk1, rk2, rk3, rk4, rk5, Arg.get, ret1, AV.cells, AV.isCell, addOff, minmaxL, Cap.room, Cap.cut, cutI, isSt, resultOf, Function.comp_apply, Function.comp_def, beq_self_eq_true, if_true, if_false, ite_true, ite_false, reduceCtorEq, bne_self_eq_false, Option.some.injEq, Prod.mk.injEq, ↓reduceIte, Nat.reduceEqDiff, Nat.reduceAdd, Nat.reduceMul, Nat.reduceSub, Nat.reduceLeDiff, Nat.reduceLT, Int.reduceLT, Int.reduceLE, Int.reduceEq, Int.reduceAdd, Int.reduceSub, Int.reduceNeg, Int.reduceToNat, List.mapM_cons, List.mapM_nil, Option.pure_def, Option.bind_eq_bind, eq_self, decide_true, decide_false]⟩
    obtain ⟨ρ', hr, q0, q1, q5, q7, q8⟩ := hrun
    refine ⟨ρ', σ3, L ++ [X], _, f', cl', cc1, _, hr, R3, .inr ⟨⟨σ1.next + 1, 0, 0⟩, .ge ((rowsOf f cl L).length + 1), [], ?_, ?_, ?_⟩, fun G hG => ?_, fun y hy => ?_, q0, q1, q5, q7, q8, by simp⟩
    · rw [hrows2]; simp
    · rw [hrows2]; simp [Cap.room]
    · rw [hrows2, List.append_nil]; exact g3
    · simp only [refId, Option.some.injEq] at hG; subst hG
      refine ⟨by rw [n3, n2]; show σ1.next + 1 < _; omega, fun h => ?_⟩
      have := lF1 _ h
      simp at this; omega
    · have hup := upL_perm (lt := ltK) (f := f') H.length (H := H ++ [X]) (by simp)
      have XH : X ∉ H := fun e => XL (R.sub X e)
      rcases List.mem_append.1 hy with hy | hy
      · have hne : y ≠ X := fun e => XL (e ▸ hy)
        have : cl' y = cl y := by simp [cl', hne]
        rw [this, ← hcl y hy]
        split
        · rw [hup.mem_iff]; simp [hne]
        · rfl
      · have hyX : y = X := by simpa using hy
        subst hyX
        have : cl' y = x.c := by simp [cl']
        rw [this]
        split
        · rename_i h; rw [hup.mem_iff]; simp [h]
        · rename_i h; simp [h, XH]
end Go.Proofs.Ytkhalpmmdlppkaa
