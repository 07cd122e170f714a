/-
  THE SHELF: Touch, Drop.
-/
import Derived.Test.YtkhalpmmdlppkaaShI
namespace Go.Proofs.Ytkhalpmmdlppkaa
set_option linter.unusedSimpArgs false
set_option linter.unusedVariables false
open Go.Vm

def cRest : C := .seq (.draw d51_7) (.seq (.draw d51_8) (.seq (.ops p51_9) .ret))
theorem code51_eq : code51 = .seq (.ops p51_1) (.seq (.ops p51_2) (.seq (.seq (.ops p51_3) (.cond (.t 10) (.seq (.ops p51_4) .ret) .skip)) (.seq (.seq (.ops p51_5) (.cond (.t 15) (.draw d51_6) .skip)) cRest))) := rfl

theorem sq49_7 : drawSeq (tab hsS) d49_7 = true := rfl
theorem sq51_6 : drawSeq (tab hsS) d51_6 = true := rfl

theorem del_map {σ : St} {M : Vm.Id} {f : Vm.Id → Ky} {L : List Vm.Id} (hm : σ.heap M = some (.map (keysOf f L) (ptrs L))) {v u : Int} {j : Nat} (h : posOf (kf f) L v u = some j) :
    delV KT σ (.map M) (.agg [.int .u32 v, .int .u32 u]) = some (.tup [], σ.set M (some (.map (keysOf f (L.eraseIdx j)) (ptrs (L.eraseIdx j))))) := by
  have hf := findIn_kx (kf f) L v u
  have er : ∀ {α β : Type} (g : α → β) (l : List α) (i : Nat), (l.map g).eraseIdx i = (l.eraseIdx i).map g := by
    intro α β g l
    induction l with
    | nil => intro i; rfl
    | cons a l ih => intro i; cases i with
      | zero => rfl
      | succ i => simp [ih i]
  simp only [delV, hm]
  rw [show AV.agg [.int .u32 v, .int .u32 u] = kx v u from rfl]
  rw [show findIn KT (kx v u) (keysOf f L) = some (posOf (kf f) L v u) from hf, h]
  simp only [Option.bind_some, keysOf, ptrs, er]

theorem sum_erase {f : Vm.Id → Ky} : ∀ {L : List Vm.Id} {j : Nat} (hj : j < L.length), sumL f (L.eraseIdx j) = sumL f L - (f (at_ L j)).sz
  | x :: L, 0, _ => by simp [sumL, at_]; omega
  | x :: L, j + 1, hj => by
    have ih := sum_erase (f := f) (L := L) (j := j) (by simpa using hj)
    have e : at_ (x :: L) (j + 1) = at_ L j := by simp [at_]
    rw [e]
    simp only [sumL, List.eraseIdx_cons_succ, List.map_cons, List.sum_cons] at ih ⊢
    omega

theorem mem_erase {L : List Vm.Id} (nd : L.Nodup) {j : Nat} (hj : j < L.length) (y : Vm.Id) : y ∈ L.eraseIdx j ↔ y ∈ L ∧ y ≠ at_ L j := by
  rw [List.mem_eraseIdx_iff_getElem]
  constructor
  · rintro ⟨i, hi, hij, rfl⟩
    exact ⟨List.getElem_mem hi, fun e => hij (at_inj nd hi hj (by rw [at_get hi]; exact e))⟩
  · rintro ⟨hy, hne⟩
    obtain ⟨i, hi, rfl⟩ := List.getElem_of_mem hy
    exact ⟨i, hi, fun e => hne (by subst e; rw [at_get hi]), rfl⟩

section
variable {σ : St} {S M : Vm.Id} {bud : Int} {L H : List Vm.Id} {f : Vm.Id → Ky} {cc : AV} (R : Rep σ S M bud L H f cc)
include R

theorem touch_none {v u us : Int} (hp : posOf (kf f) L v u = none) : ∃ σ', ev (tab hsS) 49 [.ptr S 0, .agg [.int .u32 v, .int .u32 u], .int .i64 us] σ = some (.bool false, σ') ∧ Frm σ σ' (fun _ => False) := by
  have hz : newCells σ [.int .u32 v, .int .u32 u] = some (⟨σ.next, 0, 0⟩, σ.new [.int .u32 v, .int .u32 u]) := newCells_ok rfl
  have hk : (σ.new [.int .u32 v, .int .u32 u]).get ⟨σ.next, 0, 0⟩ = some [.int .u32 v, .int .u32 u] := by rw [get_new, if_pos rfl]
  obtain ⟨R2, e2, f2⟩ := R.look2 v u
  rw [lookP_none hp] at e2
  refine ⟨_, ?_, f2⟩
  rw [ev_raw (tab49 hsS)]
  simp (disch := first | omega | (simp only [rkl]; omega)) only [rk1, rk2, rk3, rk4, rk5, Arg.get, ret1, AV.cells, AV.isCell, addOff, minmaxL, Cap.room, Cap.cut, cutI, isSt, resultOf, Function.comp_apply, Function.comp_def, beq_self_eq_true, if_true, if_false, ite_true, ite_false, reduceCtorEq, bne_self_eq_false, Option.some.injEq, Prod.mk.injEq, ↓reduceIte, Nat.reduceEqDiff, Nat.reduceAdd, Nat.reduceMul, Nat.reduceSub, Nat.reduceLeDiff, Nat.reduceLT, Int.reduceLT, Int.reduceLE, Int.reduceEq, Int.reduceAdd, Int.reduceSub, Int.reduceNeg, Int.reduceToNat, List.mapM_cons, List.mapM_nil, Option.pure_def, Option.bind_eq_bind, eq_self, decide_true, decide_false, code49, p49_1, p49_2, p49_3, p49_4, hz, hk, e2]

/-- Where a thing stands in the heap. -/
def slotOf (H : List Vm.Id) (x : Vm.Id) : Option Nat := H.findIdx? (fun y => decide (y = x))
omit R in
theorem slot_some {H : List Vm.Id} {x : Vm.Id} {k : Nat} (h : slotOf H x = some k) : k < H.length ∧ at_ H k = x := by
  unfold slotOf at h
  rw [List.findIdx?_eq_some_iff_getElem] at h
  obtain ⟨hj, h1, _⟩ := h
  exact ⟨hj, by rw [at_get hj]; simpa using h1⟩
omit R in
theorem slot_none {H : List Vm.Id} {x : Vm.Id} (h : slotOf H x = none) : x ∉ H := by
  unfold slotOf at h
  rw [List.findIdx?_eq_none_iff] at h
  intro hx
  simpa using h x hx

def touchH (f : Vm.Id → Ky) (H : List Vm.Id) (x : Vm.Id) : List Vm.Id := match slotOf H x with | some k => fixL ltK f H k H.length | none => H

theorem touch_ok {v u us : Int} {j : Nat} (hp : posOf (kf f) L v u = some j) : ∃ σ', ev (tab hsS) 49 [.ptr S 0, .agg [.int .u32 v, .int .u32 u], .int .i64 us] σ = some (.bool true, σ') ∧
    Rep σ' S M bud L (touchH (upd f (at_ L j) ⟨(f (at_ L j)).v, (f (at_ L j)).u, (f (at_ L j)).sz, us⟩) H (at_ L j)) (upd f (at_ L j) ⟨(f (at_ L j)).v, (f (at_ L j)).u, (f (at_ L j)).sz, us⟩) cc ∧ Frm σ σ' (Fp S M L cc) := by
  have hz : newCells σ [.int .u32 v, .int .u32 u] = some (⟨σ.next, 0, 0⟩, σ.new [.int .u32 v, .int .u32 u]) := newCells_ok rfl
  have hk : (σ.new [.int .u32 v, .int .u32 u]).get ⟨σ.next, 0, 0⟩ = some [.int .u32 v, .int .u32 u] := by rw [get_new, if_pos rfl]
  obtain ⟨R2, e2, f2⟩ := R.look2 v u
  rw [lookP_some hp] at e2
  have hx : at_ L j ∈ L := at_mem (pos_lt hp)
  generalize at_ L j = x at *
  generalize (σ.new [.int .u32 v, .int .u32 u]).new [.int .u32 v, .int .u32 u] = s2 at R2 e2 f2
  obtain ⟨a, hg, ha⟩ := R2.thing hx
  have t1 : storeAt s2 1 (.ptr x 3) (.int .i64 us) = some (s2.set x (some (.cells (thc ⟨(f x).v, (f x).u, (f x).sz, us⟩ a)))) := by rw [store_one hg (by simp [thc]) (by simp) rfl]; rfl
  have R3 := R2.other hx (y := ⟨(f x).v, (f x).u, (f x).sz, us⟩) (a := a) rfl rfl rfl ha
  have f3 : Frm s2 (s2.set x (some (.cells (thc ⟨(f x).v, (f x).u, (f x).sz, us⟩ a)))) (Fp S M L cc) := ⟨Nat.le_refl _, rfl, fun q _ hF => by
    have : q ≠ x := fun e => hF (.inr (.inr (.inl (e ▸ hx))))
    simp [St.set, this]⟩
  have g3 : (s2.set x (some (.cells (thc ⟨(f x).v, (f x).u, (f x).sz, us⟩ a)))).get x = some (thc ⟨(f x).v, (f x).u, (f x).sz, us⟩ a) := get_set_same _ _ _
  have hs3 := R3.hs
  have f23 := (f2.weak (G := Fp S M L cc) (fun _ h => h.elim)).trans f3 (fun q hq h => h)
  generalize s2.set x (some (.cells (thc ⟨(f x).v, (f x).u, (f x).sz, us⟩ a))) = s3 at *
  cases hs : slotOf H x with
  | none =>
    have hH := slot_none hs
    rcases ha with ⟨k, hk2, e, _⟩ | ⟨_, rfl⟩
    · exact absurd (e ▸ at_mem hk2) hH
    · refine ⟨s3, ?_, by unfold touchH; rw [hs]; exact R3, f23⟩
      rw [ev_raw (tab49 hsS)]
      simp (disch := first | omega | (simp only [rkl]; omega)) only [rk1, rk2, rk3, rk4, rk5, Arg.get, ret1, AV.cells, AV.isCell, addOff, minmaxL, Cap.room, Cap.cut, cutI, isSt, resultOf, Function.comp_apply, Function.comp_def, beq_self_eq_true, if_true, if_false, ite_true, ite_false, reduceCtorEq, bne_self_eq_false, Option.some.injEq, Prod.mk.injEq, ↓reduceIte, Nat.reduceEqDiff, Nat.reduceAdd, Nat.reduceMul, Nat.reduceSub, Nat.reduceLeDiff, Nat.reduceLT, Int.reduceLT, Int.reduceLE, Int.reduceEq, Int.reduceAdd, Int.reduceSub, Int.reduceNeg, Int.reduceToNat, List.mapM_cons, List.mapM_nil, Option.pure_def, Option.bind_eq_bind, eq_self, decide_true, decide_false, code49, p49_1, p49_2, p49_3, p49_5, p49_6, p49_8, hz, hk, e2, t1, g3, thc]
  | some k =>
    obtain ⟨hk1, hk2⟩ := slot_some hs
    rcases ha with ⟨i, hi, e, rfl⟩ | ⟨h, _⟩
    · have hik := at_inj R.hc.nd hi hk1 (e.trans hk2.symm)
      subst hik
      obtain ⟨s4, e4, R4, f4⟩ := R3.fix hk1
      refine ⟨s4, ?_, by unfold touchH; rw [hs]; exact R4, f23.trans f4 (fun q hq h => h)⟩
      have h0 : ((i : Int) ≥ 0) := by omega
      rw [ev_raw (tab49 hsS)]
      simp (disch := first | omega | (simp only [rkl]; omega)) only [rk1, rk2, rk3, rk4, rk5, Arg.get, ret1, AV.cells, AV.isCell, addOff, minmaxL, Cap.room, Cap.cut, cutI, isSt, resultOf, Function.comp_apply, Function.comp_def, beq_self_eq_true, if_true, if_false, ite_true, ite_false, reduceCtorEq, bne_self_eq_false, Option.some.injEq, Prod.mk.injEq, ↓reduceIte, Nat.reduceEqDiff, Nat.reduceAdd, Nat.reduceMul, Nat.reduceSub, Nat.reduceLeDiff, Nat.reduceLT, Int.reduceLT, Int.reduceLE, Int.reduceEq, Int.reduceAdd, Int.reduceSub, Int.reduceNeg, Int.reduceToNat, List.mapM_cons, List.mapM_nil, Option.pure_def, Option.bind_eq_bind, eq_self, decide_true, decide_false, code49, p49_1, p49_2, p49_3, p49_5, p49_6, p49_8, hz, hk, e2, t1, g3, thc, h0]
      rw [drawn sq49_7]
      simp (disch := first | omega | (simp only [rkl]; omega)) only [rk1, rk2, rk3, rk4, rk5, Arg.get, ret1, AV.cells, AV.isCell, addOff, minmaxL, Cap.room, Cap.cut, cutI, isSt, resultOf, Function.comp_apply, Function.comp_def, beq_self_eq_true, if_true, if_false, ite_true, ite_false, reduceCtorEq, bne_self_eq_false, Option.some.injEq, Prod.mk.injEq, ↓reduceIte, Nat.reduceEqDiff, Nat.reduceAdd, Nat.reduceMul, Nat.reduceSub, Nat.reduceLeDiff, Nat.reduceLT, Int.reduceLT, Int.reduceLE, Int.reduceEq, Int.reduceAdd, Int.reduceSub, Int.reduceNeg, Int.reduceToNat, List.mapM_cons, List.mapM_nil, Option.pure_def, Option.bind_eq_bind, eq_self, decide_true, decide_false, d49_7, g3, thc, e4]
    · exact absurd (hk2 ▸ at_mem hk1) h

/-- A thing goes from the heap. -/
def dropH (f : Vm.Id → Ky) (H : List Vm.Id) (x : Vm.Id) : List Vm.Id := match slotOf H x with | some k => (cutL ltK f H k).dropLast | none => H

theorem Rep.gone {j : Nat} (hj : j < L.length) (hH : at_ L j ∉ H) {v u : Int} (hp : posOf (kf f) L v u = some j) {s' : St}
    (h' : s' = (σ.set S (some (.cells [.int .i64 bud, .int .i64 (sumL f L - (f (at_ L j)).sz), .map M, cc]))).set M (some (.map (keysOf f (L.eraseIdx j)) (ptrs (L.eraseIdx j))))) :
    Rep s' S M bud (L.eraseIdx j) H f cc ∧ Frm σ s' (Fp S M L cc) := by
  have hm := fun y => mem_erase R.nd hj y
  have hnn : s'.next = σ.next := by rw [h']; rfl
  have hh : ∀ q, q ≠ S → q ≠ M → s'.heap q = σ.heap q := fun q h1 h2 => by rw [h']; simp [St.set, h1, h2]
  refine ⟨⟨?_, ?_, fun x hx => (hm x).2 ⟨R.sub x hx, fun e => hH (e ▸ hx)⟩, fun x hx hxH => ?_, ?_, fun x hx y hy => R.key x ((hm x).1 hx).1 y ((hm y).1 hy).1, by rw [hnn]; exact R.lS, by rw [hnn]; exact R.lM, fun x hx => by rw [hnn]; exact R.lL x ((hm x).1 hx).1, R.mS, fun e => R.mL ((hm M).1 e).1, fun e => R.sL ((hm S).1 e).1, R.mB, fun x hx => R.bL x ((hm x).1 hx).1, ?_, fun x hx => R.sz x ((hm x).1 hx).1⟩, ⟨by rw [hnn]; exact Nat.le_refl _, by rw [h']; rfl, fun q _ hF => hh q (fun e => hF (.inl e)) (fun e => hF (.inr (.inl e)))⟩⟩
  · have h1 := R.hc.size (z' := .int .i64 (sumL f L - (f (at_ L j)).sz))
    rw [sum_erase hj]
    refine h1.frm (fun q hq => ?_) (by rw [hnn]; exact Nat.le_refl _)
    have hqM : q ≠ M := by
      rintro rfl
      rcases hq with hq | hq | hq
      · exact R.mS hq
      · exact R.mL (R.sub _ hq)
      · exact R.mB hq
    rw [h']; simp [St.set, hqM]
  · rw [h']; simp [St.set]
  · obtain ⟨hx1, _⟩ := (hm x).1 hx
    simp only [St.get, hh x (fun e => R.sL (e ▸ hx1)) (fun e => R.mL (e ▸ hx1))]
    exact R.off x hx1 hxH
  · exact R.nd.sublist (List.eraseIdx_sublist _ _)
  · have := R.few
    have := List.length_eraseIdx_le L j
    omega

theorem drop_none {v u : Int} (hp : posOf (kf f) L v u = none) : ∃ σ', ev (tab hsS) 51 [.ptr S 0, .agg [.int .u32 v, .int .u32 u]] σ = some (.bool false, σ') ∧ Frm σ σ' (fun _ => False) := by
  have hz : newCells σ [.int .u32 v, .int .u32 u] = some (⟨σ.next, 0, 0⟩, σ.new [.int .u32 v, .int .u32 u]) := newCells_ok rfl
  have hk : (σ.new [.int .u32 v, .int .u32 u]).get ⟨σ.next, 0, 0⟩ = some [.int .u32 v, .int .u32 u] := by rw [get_new, if_pos rfl]
  obtain ⟨R2, e2, f2⟩ := R.look2 v u
  rw [lookP_none hp] at e2
  refine ⟨_, ?_, f2⟩
  rw [ev_raw (tab51 hsS)]
  simp (disch := first | omega | (simp only [rkl]; omega)) only [rk1, rk2, rk3, rk4, rk5, Arg.get, ret1, AV.cells, AV.isCell, addOff, minmaxL, Cap.room, Cap.cut, cutI, isSt, resultOf, Function.comp_apply, Function.comp_def, beq_self_eq_true, if_true, if_false, ite_true, ite_false, reduceCtorEq, bne_self_eq_false, Option.some.injEq, Prod.mk.injEq, ↓reduceIte, Nat.reduceEqDiff, Nat.reduceAdd, Nat.reduceMul, Nat.reduceSub, Nat.reduceLeDiff, Nat.reduceLT, Int.reduceLT, Int.reduceLE, Int.reduceEq, Int.reduceAdd, Int.reduceSub, Int.reduceNeg, Int.reduceToNat, List.mapM_cons, List.mapM_nil, Option.pure_def, Option.bind_eq_bind, eq_self, decide_true, decide_false, code51, p51_1, p51_2, p51_3, p51_4, hz, hk, e2]

theorem Rep.remove {k : Nat} (hk : k < H.length) : ∃ σ' r cc', ev (tab hsS) 81 [.iface 131 (.ptr S 3), .int .i64 k] σ = some (r, σ') ∧ Rep σ' S M bud L (cutL ltK f H k).dropLast f cc' ∧ at_ H k ∉ (cutL ltK f H k).dropLast ∧ Frm σ σ' (Fp S M L cc) ∧ refId cc' = refId cc ∧ σ'.next = σ.next := by
  obtain ⟨σ', r, cc', e, h', g, o, hcc⟩ := remove81 R.hc hk
  have hp := cutL_perm (lt := ltK) (f := f) hk
  have hl := hp.length_eq
  have hlast := drop_last (H := cutL ltK f H k) (fun e => by rw [e] at hl; simp at hl; omega)
  rw [hl, cutL_last hk] at hlast
  have nd := hp.nodup_iff.2 R.hc.nd
  rw [← hlast] at nd
  have hnot : at_ H k ∉ (cutL ltK f H k).dropLast := fun e => (List.nodup_append.1 nd).2.2 _ e _ (by simp) rfl
  have hmem : ∀ y, y ∈ (cutL ltK f H k).dropLast → y ∈ H := fun y hy => hp.mem_iff.1 (List.dropLast_subset _ hy)
  have hmem2 : ∀ y, y ∈ H → y ≠ at_ H k → y ∈ (cutL ltK f H k).dropLast := fun y hy hne => by
    have := hp.mem_iff.2 hy
    rw [← hlast] at this
    rcases List.mem_append.1 this with h | h
    · exact h
    · simp at h; exact absurd h hne
  have hn := o.next
  refine ⟨σ', r, cc', e, ⟨h', ?_, fun y hy => R.sub y (hmem y hy), fun y hy hyH => ?_, R.nd, R.key, by rw [hn]; exact R.lS, by rw [hn]; exact R.lM, fun y hy => by rw [hn]; exact R.lL y hy, R.mS, R.mL, R.sL, by rw [hcc]; exact R.mB, fun y hy => by rw [hcc]; exact R.bL y hy, R.few, R.sz⟩, hnot, (o.weak fun q hq => ?_).frm, hcc, hn⟩
  · rw [o.heap M ?_]; exact R.hm
    rintro (h | h | h)
    · exact R.mS h
    · exact R.mL (R.sub M h)
    · exact R.mB h
  · by_cases hy2 : y = at_ H k
    · subst hy2; exact g
    · have n1 : y ∉ H := fun h => hyH (hmem2 y h hy2)
      rw [o.get ?_]; exact R.off y hy n1
      rintro (h | h | h)
      · exact R.sL (h ▸ hy)
      · exact n1 h
      · exact R.bL y hy h
  · rcases hq with hq | hq | hq
    · exact .inl hq
    · exact .inr (.inr (.inl (R.sub q hq)))
    · exact .inr (.inr (.inr hq))

theorem drop_ok {v u : Int} {j : Nat} (hp : posOf (kf f) L v u = some j) : ∃ σ' cc', ev (tab hsS) 51 [.ptr S 0, .agg [.int .u32 v, .int .u32 u]] σ = some (.bool true, σ') ∧
    Rep σ' S M bud (L.eraseIdx j) (dropH f H (at_ L j)) f cc' ∧ Frm σ σ' (Fp S M L cc) ∧ refId cc' = refId cc := by
  have hz : newCells σ [.int .u32 v, .int .u32 u] = some (⟨σ.next, 0, 0⟩, σ.new [.int .u32 v, .int .u32 u]) := newCells_ok rfl
  have hk : (σ.new [.int .u32 v, .int .u32 u]).get ⟨σ.next, 0, 0⟩ = some [.int .u32 v, .int .u32 u] := by rw [get_new, if_pos rfl]
  obtain ⟨R2, e2, f2⟩ := R.look2 v u
  rw [lookP_some hp] at e2
  have hj := pos_lt hp
  have hx : at_ L j ∈ L := at_mem hj
  have kS : (⟨σ.next, 0, 0⟩ : Vm.Id) ≠ S := fun e => by have := R.lS; rw [← e] at this; simp at this
  have kL : (⟨σ.next, 0, 0⟩ : Vm.Id) ∉ L := fun e => by have := R.lL _ e; simp at this
  have kB : refId cc ≠ some ⟨σ.next, 0, 0⟩ := fun e => by have := R.hc.lb _ e; simp at this
  have kM : (⟨σ.next, 0, 0⟩ : Vm.Id) ≠ M := fun e => by have := R.lM; rw [← e] at this; simp at this
  have kF : ¬ Fp S M L cc ⟨σ.next, 0, 0⟩ := by
    rintro (h | h | h | h)
    · exact kS h
    · exact kM h
    · exact kL h
    · exact kB h
  have hk2 : ((σ.new [.int .u32 v, .int .u32 u]).new [.int .u32 v, .int .u32 u]).get ⟨σ.next, 0, 0⟩ = some [.int .u32 v, .int .u32 u] := by rw [new_get (by show σ.next < σ.next + 1; omega)]; exact hk
  have hn2 : ((σ.new [.int .u32 v, .int .u32 u]).new [.int .u32 v, .int .u32 u]).next = σ.next + 2 := rfl
  generalize (σ.new [.int .u32 v, .int .u32 u]).new [.int .u32 v, .int .u32 u] = s2 at R2 e2 f2 hk2 hn2
  obtain ⟨a, hg, ha⟩ := R2.thing hx
  -- what comes behind the heap
  have rest : ∀ {s3 : St} {H3 : List Vm.Id} {cc3 : AV}, Rep s3 S M bud L H3 f cc3 → at_ L j ∉ H3 → s3.get ⟨σ.next, 0, 0⟩ = some [.int .u32 v, .int .u32 u] → ∃ s5, (∀ (ρ : Env) r, run (tab hsS) cRest ρ s3 = r → ρ 0 = .ptr S 0 → ρ 3 = .ptr ⟨σ.next, 0, 0⟩ 0 → ρ 5 = .ptr (at_ L j) 0 →
      ∃ ρ', r = some (.ret, ρ', s5) ∧ ρ' 4 = .bool true) ∧ Rep s5 S M bud (L.eraseIdx j) H3 f cc3 ∧ Frm s3 s5 (Fp S M L cc3) := by
    intro s3 H3 cc3 R3 hH3 hk3
    have hs3 := R3.hs
    have g3 := R3.off _ hx hH3
    have hsl := sum_le R3.sz
    have hfew := R3.few
    have hszx := R3.sz _ hx
    have t1 : storeAt s3 1 (.ptr S 1) (.int .i64 (sumL f L - (f (at_ L j)).sz)) = some (s3.set S (some (.cells [.int .i64 bud, .int .i64 (sumL f L - (f (at_ L j)).sz), .map M, cc3]))) := by rw [store_one hs3 (by simp) (by simp) rfl]; rfl
    have hm4 : (s3.set S (some (.cells [.int .i64 bud, .int .i64 (sumL f L - (f (at_ L j)).sz), .map M, cc3]))).heap M = some (.map (keysOf f L) (ptrs L)) := by simpa [St.set, R.mS] using R3.hm
    have hd := del_map hm4 hp
    have hk4 : (s3.set S (some (.cells [.int .i64 bud, .int .i64 (sumL f L - (f (at_ L j)).sz), .map M, cc3]))).get ⟨σ.next, 0, 0⟩ = some [.int .u32 v, .int .u32 u] := by rw [get_set, if_neg kS]; exact hk3
    have hs4 : (s3.set S (some (.cells [.int .i64 bud, .int .i64 (sumL f L - (f (at_ L j)).sz), .map M, cc3]))).get S = some [.int .i64 bud, .int .i64 (sumL f L - (f (at_ L j)).sz), .map M, cc3] := get_set_same _ _ _
    obtain ⟨R5, f5⟩ := R3.gone hj hH3 hp rfl
    generalize s3.set S (some (.cells [.int .i64 bud, .int .i64 (sumL f L - (f (at_ L j)).sz), .map M, cc3])) = s4 at t1 hd hk4 hs4 R5 f5
    refine ⟨_, fun ρ r hr r0 r3 r5 => ?_, R5, f5⟩
    subst hr
    rw [cRest, run_seq, drawn (seq_d51_7 _)]
    simp (disch := first | omega | (simp only [rkl]; omega)) only [rk1, rk2, rk3, rk4, rk5, Arg.get, ret1, AV.cells, AV.isCell, addOff, minmaxL, Cap.room, Cap.cut, cutI, isSt, resultOf, Function.comp_apply, Function.comp_def, beq_self_eq_true, if_true, if_false, ite_true, ite_false, reduceCtorEq, bne_self_eq_false, Option.some.injEq, Prod.mk.injEq, ↓reduceIte, Nat.reduceEqDiff, Nat.reduceAdd, Nat.reduceMul, Nat.reduceSub, Nat.reduceLeDiff, Nat.reduceLT, Int.reduceLT, Int.reduceLE, Int.reduceEq, Int.reduceAdd, Int.reduceSub, Int.reduceNeg, Int.reduceToNat, List.mapM_cons, List.mapM_nil, Option.pure_def, Option.bind_eq_bind, eq_self, decide_true, decide_false, d51_7, r0, r5, hs3, g3, thc, t1]
    rw [drawn (seq_d51_8 _)]
    simp (disch := first | omega | (simp only [rkl]; omega)) only [rk1, rk2, rk3, rk4, rk5, Arg.get, ret1, AV.cells, AV.isCell, addOff, minmaxL, Cap.room, Cap.cut, cutI, isSt, resultOf, Function.comp_apply, Function.comp_def, beq_self_eq_true, if_true, if_false, ite_true, ite_false, reduceCtorEq, bne_self_eq_false, Option.some.injEq, Prod.mk.injEq, ↓reduceIte, Nat.reduceEqDiff, Nat.reduceAdd, Nat.reduceMul, Nat.reduceSub, Nat.reduceLeDiff, Nat.reduceLT, Int.reduceLT, Int.reduceLE, Int.reduceEq, Int.reduceAdd, Int.reduceSub, Int.reduceNeg, Int.reduceToNat, List.mapM_cons, List.mapM_nil, Option.pure_def, Option.bind_eq_bind, eq_self, decide_true, decide_false, d51_8, r0, r3, hs4, hk4, ev_delete, hd, p51_9]
    exact ⟨_, rfl, by simp (disch := first | omega | (simp only [rkl]; omega)) only [rk1, rk2, rk3, rk4, rk5, Arg.get, ret1, AV.cells, AV.isCell, addOff, minmaxL, Cap.room, Cap.cut, cutI, isSt, resultOf, Function.comp_apply, Function.comp_def, beq_self_eq_true, if_true, if_false, ite_true, ite_false, reduceCtorEq, bne_self_eq_false, Option.some.injEq, Prod.mk.injEq, ↓reduceIte, Nat.reduceEqDiff, Nat.reduceAdd, Nat.reduceMul, Nat.reduceSub, Nat.reduceLeDiff, Nat.reduceLT, Int.reduceLT, Int.reduceLE, Int.reduceEq, Int.reduceAdd, Int.reduceSub, Int.reduceNeg, Int.reduceToNat, List.mapM_cons, List.mapM_nil, Option.pure_def, Option.bind_eq_bind, eq_self, decide_true, decide_false]⟩
  cases hs : slotOf H (at_ L j) with
  | none =>
    have hH := slot_none hs
    rcases ha with ⟨k, hk3, e, _⟩ | ⟨_, rfl⟩
    · exact absurd (e ▸ at_mem hk3) hH
    · obtain ⟨s5, h5, R5, f5⟩ := rest R2 hH hk2
      refine ⟨s5, cc, ?_, by unfold dropH; rw [hs]; exact R5, (f2.weak (G := Fp S M L cc) (fun _ h => h.elim)).trans f5 (fun q hq h => h), rfl⟩
      rw [ev_raw (tab51 hsS), code51_eq]
      simp (disch := first | omega | (simp only [rkl]; omega)) only [rk1, rk2, rk3, rk4, rk5, Arg.get, ret1, AV.cells, AV.isCell, addOff, minmaxL, Cap.room, Cap.cut, cutI, isSt, resultOf, Function.comp_apply, Function.comp_def, beq_self_eq_true, if_true, if_false, ite_true, ite_false, reduceCtorEq, bne_self_eq_false, Option.some.injEq, Prod.mk.injEq, ↓reduceIte, Nat.reduceEqDiff, Nat.reduceAdd, Nat.reduceMul, Nat.reduceSub, Nat.reduceLeDiff, Nat.reduceLT, Int.reduceLT, Int.reduceLE, Int.reduceEq, Int.reduceAdd, Int.reduceSub, Int.reduceNeg, Int.reduceToNat, List.mapM_cons, List.mapM_nil, Option.pure_def, Option.bind_eq_bind, eq_self, decide_true, decide_false, p51_1, p51_2, p51_3, p51_5, hz, hk, e2, hg, thc]
      generalize hr : run (tab hsS) cRest _ _ = r
      obtain ⟨ρ', rfl, q⟩ := h5 _ _ hr (by simp (disch := first | omega | (simp only [rkl]; omega)) only [rk1, rk2, rk3, rk4, rk5, Arg.get, ret1, AV.cells, AV.isCell, addOff, minmaxL, Cap.room, Cap.cut, cutI, isSt, resultOf, Function.comp_apply, Function.comp_def, beq_self_eq_true, if_true, if_false, ite_true, ite_false, reduceCtorEq, bne_self_eq_false, Option.some.injEq, Prod.mk.injEq, ↓reduceIte, Nat.reduceEqDiff, Nat.reduceAdd, Nat.reduceMul, Nat.reduceSub, Nat.reduceLeDiff, Nat.reduceLT, Int.reduceLT, Int.reduceLE, Int.reduceEq, Int.reduceAdd, Int.reduceSub, Int.reduceNeg, Int.reduceToNat, List.mapM_cons, List.mapM_nil, Option.pure_def, Option.bind_eq_bind, eq_self, decide_true, decide_false]) (by simp (disch := first | omega | (simp only [rkl]; omega)) only [rk1, rk2, rk3, rk4, rk5, Arg.get, ret1, AV.cells, AV.isCell, addOff, minmaxL, Cap.room, Cap.cut, cutI, isSt, resultOf, Function.comp_apply, Function.comp_def, beq_self_eq_true, if_true, if_false, ite_true, ite_false, reduceCtorEq, bne_self_eq_false, Option.some.injEq, Prod.mk.injEq, ↓reduceIte, Nat.reduceEqDiff, Nat.reduceAdd, Nat.reduceMul, Nat.reduceSub, Nat.reduceLeDiff, Nat.reduceLT, Int.reduceLT, Int.reduceLE, Int.reduceEq, Int.reduceAdd, Int.reduceSub, Int.reduceNeg, Int.reduceToNat, List.mapM_cons, List.mapM_nil, Option.pure_def, Option.bind_eq_bind, eq_self, decide_true, decide_false]) (by simp (disch := first | omega | (simp only [rkl]; omega)) only [rk1, rk2, rk3, rk4, rk5, Arg.get, ret1, AV.cells, AV.isCell, addOff, minmaxL, Cap.room, Cap.cut, cutI, isSt, resultOf, Function.comp_apply, Function.comp_def, beq_self_eq_true, if_true, if_false, ite_true, ite_false, reduceCtorEq, bne_self_eq_false, Option.some.injEq, Prod.mk.injEq, ↓reduceIte, Nat.reduceEqDiff, Nat.reduceAdd, Nat.reduceMul, Nat.reduceSub, Nat.reduceLeDiff, Nat.reduceLT, Int.reduceLT, Int.reduceLE, Int.reduceEq, Int.reduceAdd, Int.reduceSub, Int.reduceNeg, Int.reduceToNat, List.mapM_cons, List.mapM_nil, Option.pure_def, Option.bind_eq_bind, eq_self, decide_true, decide_false])
      simp (disch := first | omega | (simp only [rkl]; omega)) only [rk1, rk2, rk3, rk4, rk5, Arg.get, ret1, AV.cells, AV.isCell, addOff, minmaxL, Cap.room, Cap.cut, cutI, isSt, resultOf, Function.comp_apply, Function.comp_def, beq_self_eq_true, if_true, if_false, ite_true, ite_false, reduceCtorEq, bne_self_eq_false, Option.some.injEq, Prod.mk.injEq, ↓reduceIte, Nat.reduceEqDiff, Nat.reduceAdd, Nat.reduceMul, Nat.reduceSub, Nat.reduceLeDiff, Nat.reduceLT, Int.reduceLT, Int.reduceLE, Int.reduceEq, Int.reduceAdd, Int.reduceSub, Int.reduceNeg, Int.reduceToNat, List.mapM_cons, List.mapM_nil, Option.pure_def, Option.bind_eq_bind, eq_self, decide_true, decide_false, q]
  | some k =>
    obtain ⟨hk1, hke⟩ := slot_some hs
    rcases ha with ⟨i, hi, e, rfl⟩ | ⟨h, _⟩
    · have hik := at_inj R.hc.nd hi hk1 (e.trans hke.symm)
      subst hik
      obtain ⟨s3, r, cc', e3, R3, hnot, f3, hcc, hn3⟩ := R2.remove hi
      rw [e] at hnot
      have hk3 : s3.get ⟨σ.next, 0, 0⟩ = some [.int .u32 v, .int .u32 u] := by rw [f3.get (by show σ.next < s2.next; omega) kF]; exact hk2
      obtain ⟨s5, h5, R5, f5⟩ := rest R3 hnot hk3
      have h0 : ((i : Int) ≥ 0) := by omega
      have hFeq : ∀ q, Fp S M L cc' q → Fp S M L cc q := fun q hq => by unfold Fp at hq ⊢; rw [hcc] at hq; exact hq
      refine ⟨s5, cc', ?_, by unfold dropH; rw [hs]; exact R5, ((f2.weak (G := Fp S M L cc) (fun _ h => h.elim)).trans f3 (fun q hq h => h)).trans f5 (fun q hq h => hFeq q h), hcc⟩
      have hs2 := R2.hs
      rw [ev_raw (tab51 hsS), code51_eq]
      simp (disch := first | omega | (simp only [rkl]; omega)) only [rk1, rk2, rk3, rk4, rk5, Arg.get, ret1, AV.cells, AV.isCell, addOff, minmaxL, Cap.room, Cap.cut, cutI, isSt, resultOf, Function.comp_apply, Function.comp_def, beq_self_eq_true, if_true, if_false, ite_true, ite_false, reduceCtorEq, bne_self_eq_false, Option.some.injEq, Prod.mk.injEq, ↓reduceIte, Nat.reduceEqDiff, Nat.reduceAdd, Nat.reduceMul, Nat.reduceSub, Nat.reduceLeDiff, Nat.reduceLT, Int.reduceLT, Int.reduceLE, Int.reduceEq, Int.reduceAdd, Int.reduceSub, Int.reduceNeg, Int.reduceToNat, List.mapM_cons, List.mapM_nil, Option.pure_def, Option.bind_eq_bind, eq_self, decide_true, decide_false, p51_1, p51_2, p51_3, p51_5, hz, hk, e2, hg, thc, h0]
      rw [drawn sq51_6]
      simp (disch := first | omega | (simp only [rkl]; omega)) only [rk1, rk2, rk3, rk4, rk5, Arg.get, ret1, AV.cells, AV.isCell, addOff, minmaxL, Cap.room, Cap.cut, cutI, isSt, resultOf, Function.comp_apply, Function.comp_def, beq_self_eq_true, if_true, if_false, ite_true, ite_false, reduceCtorEq, bne_self_eq_false, Option.some.injEq, Prod.mk.injEq, ↓reduceIte, Nat.reduceEqDiff, Nat.reduceAdd, Nat.reduceMul, Nat.reduceSub, Nat.reduceLeDiff, Nat.reduceLT, Int.reduceLT, Int.reduceLE, Int.reduceEq, Int.reduceAdd, Int.reduceSub, Int.reduceNeg, Int.reduceToNat, List.mapM_cons, List.mapM_nil, Option.pure_def, Option.bind_eq_bind, eq_self, decide_true, decide_false, d51_6, hg, thc, hs2, e3]
      generalize hr : run (tab hsS) cRest _ _ = r
      obtain ⟨ρ', rfl, q⟩ := h5 _ _ hr (by simp (disch := first | omega | (simp only [rkl]; omega)) only [rk1, rk2, rk3, rk4, rk5, Arg.get, ret1, AV.cells, AV.isCell, addOff, minmaxL, Cap.room, Cap.cut, cutI, isSt, resultOf, Function.comp_apply, Function.comp_def, beq_self_eq_true, if_true, if_false, ite_true, ite_false, reduceCtorEq, bne_self_eq_false, Option.some.injEq, Prod.mk.injEq, ↓reduceIte, Nat.reduceEqDiff, Nat.reduceAdd, Nat.reduceMul, Nat.reduceSub, Nat.reduceLeDiff, Nat.reduceLT, Int.reduceLT, Int.reduceLE, Int.reduceEq, Int.reduceAdd, Int.reduceSub, Int.reduceNeg, Int.reduceToNat, List.mapM_cons, List.mapM_nil, Option.pure_def, Option.bind_eq_bind, eq_self, decide_true, decide_false]) (by simp (disch := first | omega | (simp only [rkl]; omega)) only [rk1, rk2, rk3, rk4, rk5, Arg.get, ret1, AV.cells, AV.isCell, addOff, minmaxL, Cap.room, Cap.cut, cutI, isSt, resultOf, Function.comp_apply, Function.comp_def, beq_self_eq_true, if_true, if_false, ite_true, ite_false, reduceCtorEq, bne_self_eq_false, Option.some.injEq, Prod.mk.injEq, ↓reduceIte, Nat.reduceEqDiff, Nat.reduceAdd, Nat.reduceMul, Nat.reduceSub, Nat.reduceLeDiff, Nat.reduceLT, Int.reduceLT, Int.reduceLE, Int.reduceEq, Int.reduceAdd, Int.reduceSub, Int.reduceNeg, Int.reduceToNat, List.mapM_cons, List.mapM_nil, Option.pure_def, Option.bind_eq_bind, eq_self, decide_true, decide_false]) (by simp (disch := first | omega | (simp only [rkl]; omega)) only [rk1, rk2, rk3, rk4, rk5, Arg.get, ret1, AV.cells, AV.isCell, addOff, minmaxL, Cap.room, Cap.cut, cutI, isSt, resultOf, Function.comp_apply, Function.comp_def, beq_self_eq_true, if_true, if_false, ite_true, ite_false, reduceCtorEq, bne_self_eq_false, Option.some.injEq, Prod.mk.injEq, ↓reduceIte, Nat.reduceEqDiff, Nat.reduceAdd, Nat.reduceMul, Nat.reduceSub, Nat.reduceLeDiff, Nat.reduceLT, Int.reduceLT, Int.reduceLE, Int.reduceEq, Int.reduceAdd, Int.reduceSub, Int.reduceNeg, Int.reduceToNat, List.mapM_cons, List.mapM_nil, Option.pure_def, Option.bind_eq_bind, eq_self, decide_true, decide_false])
      simp (disch := first | omega | (simp only [rkl]; omega)) only [rk1, rk2, rk3, rk4, rk5, Arg.get, ret1, AV.cells, AV.isCell, addOff, minmaxL, Cap.room, Cap.cut, cutI, isSt, resultOf, Function.comp_apply, Function.comp_def, beq_self_eq_true, if_true, if_false, ite_true, ite_false, reduceCtorEq, bne_self_eq_false, Option.some.injEq, Prod.mk.injEq, ↓reduceIte, Nat.reduceEqDiff, Nat.reduceAdd, Nat.reduceMul, Nat.reduceSub, Nat.reduceLeDiff, Nat.reduceLT, Int.reduceLT, Int.reduceLE, Int.reduceEq, Int.reduceAdd, Int.reduceSub, Int.reduceNeg, Int.reduceToNat, List.mapM_cons, List.mapM_nil, Option.pure_def, Option.bind_eq_bind, eq_self, decide_true, decide_false, q]
    · exact absurd (hke ▸ at_mem hk1) h
end
end Go.Proofs.Ytkhalpmmdlppkaa
