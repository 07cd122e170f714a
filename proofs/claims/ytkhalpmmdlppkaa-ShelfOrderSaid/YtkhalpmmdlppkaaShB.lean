/-
  THE SHELF: the heap where it stands: two change places.
-/
import Derived.Test.YtkhalpmmdlppkaaShA
namespace Go.Proofs.Ytkhalpmmdlppkaa
set_option linter.unusedSimpArgs false
set_option linter.unusedVariables false
open Go.Vm

instance : Inhabited Vm.Id := ⟨⟨0, 0, 0⟩⟩

/-- Only some blocks are other. -/
structure Only (σ σ' : St) (F : Vm.Id → Prop) : Prop where
  next : σ'.next = σ.next
  ver : σ'.ver = σ.ver
  heap : ∀ q, ¬ F q → σ'.heap q = σ.heap q

theorem Only.refl (σ : St) (F : Vm.Id → Prop) : Only σ σ F := ⟨rfl, rfl, fun _ _ => rfl⟩
theorem Only.trans {σ σ' σ'' : St} {F : Vm.Id → Prop} (h : Only σ σ' F) (h' : Only σ' σ'' F) : Only σ σ'' F :=
  ⟨h'.next.trans h.next, h'.ver.trans h.ver, fun q hq => (h'.heap q hq).trans (h.heap q hq)⟩
theorem Only.weak {σ σ' : St} {F G : Vm.Id → Prop} (h : Only σ σ' F) (hw : ∀ q, F q → G q) : Only σ σ' G := ⟨h.next, h.ver, fun q hq => h.heap q fun hf => hq (hw q hf)⟩
theorem Only.get {σ σ' : St} {F : Vm.Id → Prop} (h : Only σ σ' F) {q : Vm.Id} (hq : ¬ F q) : σ'.get q = σ.get q := by simp only [St.get, h.heap q hq]

def ptrs (H : List Vm.Id) : List AV := H.map fun x => .ptr x 0

/-- The heap, and the shelf's own block (its last cell says where the heap lies). -/
structure Hq (σ : St) (S B : Vm.Id) (b z m : AV) (cap : Cap) (junk : List AV) (H : List Vm.Id) (f : Vm.Id → Ky) : Prop where
  hs : σ.get S = some [b, z, m, .sl B 0 H.length cap 1]
  hb : σ.get B = some (ptrs H ++ junk)
  ht : ∀ k, k < H.length → σ.get (at_ H k) = some (thc (f (at_ H k)) k)
  nd : H.Nodup
  sb : S ≠ B
  sh : S ∉ H
  bh : B ∉ H
  few : H.length < 2 ^ 40

theorem at_mem {H : List Vm.Id} {k : Nat} (h : k < H.length) : at_ H k ∈ H := by rw [at_get h]; exact List.getElem_mem h
theorem at_inj {H : List Vm.Id} (nd : H.Nodup) {i j : Nat} (hi : i < H.length) (hj : j < H.length) (h : at_ H i = at_ H j) : i = j := by
  rw [at_get hi, at_get hj] at h
  have p := List.pairwise_iff_getElem.1 nd
  rcases Nat.lt_trichotomy i j with h1 | h1 | h1
  · exact absurd h (p i j hi hj h1)
  · exact h1
  · exact absurd h.symm (p j i hj hi h1)
theorem ptrs_len (H : List Vm.Id) : (ptrs H).length = H.length := by simp [ptrs]
theorem ptrs_at {H : List Vm.Id} {junk : List AV} {k : Nat} (h : k < H.length) : (ptrs H ++ junk)[k]? = some (.ptr (at_ H k) 0) := by
  rw [List.getElem?_append_left (by simpa [ptrs] using h), ptrs, List.getElem?_map, at_eq h]; rfl
theorem ptrs_part {H : List Vm.Id} {junk : List AV} {k : Nat} (h : k < H.length) : Vm.part false 1 k (ptrs H ++ junk) = some (.ptr (at_ H k) 0) := by
  rw [part_one (by simp [ptrs]; omega), ptrs_at h]
theorem ptrs_set {H : List Vm.Id} {junk : List AV} {k : Nat} (h : k < H.length) (x : Vm.Id) : (ptrs H ++ junk).set k (.ptr x 0) = ptrs (H.set k x) ++ junk := by
  rw [List.set_append_left _ _ (by simpa [ptrs] using h), ptrs, ptrs, List.map_set]

def invV (E : CallH) (σ : St) (tbl : List (TypeId × (Option (Bool × Nat) × FuncId))) (v : AV) (xs : List AV) : Option (AV × St) :=
  match v with
  | .iface t v => match tbl.lookup t with | some (d, f) => (recv σ d v).bind fun r => E f (r :: xs) σ | none => none
  | _ => none
theorem ev_invoke (E : CallH) (ρ : Env) (σ : St) (tbl : List (TypeId × (Option (Bool × Nat) × FuncId))) (x : Arg) (args : List Arg) : Ins.ev E ρ σ (.invoke tbl x args) = invV E σ tbl (x.get ρ) (args.map (Arg.get ρ)) := rfl

abbrev tLen : List (TypeId × (Option (Bool × Nat) × FuncId)) := [(17, (none, 122)), (60, (none, 46)), (124, (none, 126)), (131, (some (false, 1), 126))]
abbrev tLess : List (TypeId × (Option (Bool × Nat) × FuncId)) := [(124, (none, 127)), (131, (some (false, 1), 127))]
abbrev tSwap : List (TypeId × (Option (Bool × Nat) × FuncId)) := [(124, (none, 128)), (131, (some (false, 1), 128))]

theorem inv_at {E : CallH} {σ : St} {S : Vm.Id} {b z m c : AV} (hs : σ.get S = some [b, z, m, c]) {tbl : List (TypeId × (Option (Bool × Nat) × FuncId))} {f : FuncId} (ht : tbl.lookup 131 = some (some (false, 1), f)) (xs : List AV) :
    invV E σ tbl (.iface 131 (.ptr S 3)) xs = E f (c :: xs) σ := by
  simp only [invV, ht, recv, loadAt, hs]
  rfl

section
variable {σ : St} {S B : Vm.Id} {b z m : AV} {cap : Cap} {junk : List AV} {H : List Vm.Id} {f : Vm.Id → Ky} (Q : Hq σ S B b z m cap junk H f)
include Q

theorem Hq.snap : ∃ ps, snap σ 7 (.sl B 0 H.length cap 1) = some (.isl true ps H.length none) ∧ ps.length = H.length ∧ ∀ k, k < H.length → ps[k]? = some (.iptr true (thc (f (at_ H k)) k) 0) := by
  have one : ∀ k, k < H.length → Vm.snap σ 6 (.ptr (at_ H k) 0) = some (.iptr true (thc (f (at_ H k)) k) 0) := fun k hk => by
    rw [snap_ptr, Q.ht k hk]; rfl
  obtain ⟨ps, h1, h2, h3⟩ := mapM_ex (g := Vm.snap σ 6) (xs := ptrs H) fun x hx => by
    simp only [ptrs, List.mem_map] at hx
    obtain ⟨y, hy, rfl⟩ := hx
    obtain ⟨k, hk, rfl⟩ := List.getElem_of_mem hy
    exact ⟨_, by rw [← at_get hk]; exact one k hk⟩
  refine ⟨ps, ?_, by rw [h2, ptrs_len], fun k hk => h3 k _ _ ?_ (one k hk)⟩
  · rw [snap_sl, Q.hb]
    simp only [Option.bind_some, List.drop_zero, Nat.zero_add, Nat.mul_one]
    rw [if_pos (by simp [ptrs]), List.take_left' (ptrs_len H), h1]; rfl
  · have := ptrs_at (H := H) (junk := []) hk
    simpa using this

theorem inv_len : invV (ev (tab hsS)) σ tLen (.iface 131 (.ptr S 3)) [] = some (.int .i64 H.length, σ) := by
  obtain ⟨ps, h1, h2, h3⟩ := Q.snap
  rw [inv_at Q.hs rfl]
  refine pure_ev (tab126 hsS) (snaps_cons h1 (snaps_nil _)) ?_
  simp (disch := first | omega | (simp only [rkl]; omega)) only [rk1, rk2, rk3, rk4, rk5, Arg.get, ret1, AV.cells, AV.isCell, addOff, minmaxL, Cap.room, Cap.cut, cutI, isSt, resultOf, Function.comp_apply, Function.comp_def, beq_self_eq_true, if_true, if_false, ite_true, ite_false, reduceCtorEq, bne_self_eq_false, Option.some.injEq, Prod.mk.injEq, ↓reduceIte, Nat.reduceEqDiff, Nat.reduceAdd, Nat.reduceMul, Nat.reduceSub, Nat.reduceLeDiff, Nat.reduceLT, Int.reduceLT, Int.reduceLE, Int.reduceEq, Int.reduceAdd, Int.reduceSub, Int.reduceNeg, Int.reduceToNat, List.mapM_cons, List.mapM_nil, Option.pure_def, Option.bind_eq_bind, eq_self, decide_true, decide_false, code126, p126_1, p126_2]

theorem inv_less {i j : Nat} (hi : i < H.length) (hj : j < H.length) : invV (ev (tab hsS)) σ tLess (.iface 131 (.ptr S 3)) [.int .i64 i, .int .i64 j] = some (.bool (ltK (f (at_ H i)) (f (at_ H j))), σ) := by
  obtain ⟨ps, h1, h2, h3⟩ := Q.snap
  rw [inv_at Q.hs rfl]
  exact pure_ev (tab127 hsS) (snaps_cons h1 (snaps_cons rfl (snaps_cons rfl (snaps_nil _)))) (less_pure h2 Q.few hi hj (h3 i hi) (h3 j hj))

theorem inv_swap {i j : Nat} (hi : i < H.length) (hj : j < H.length) (hij : i ≠ j) : ∃ σ', invV (ev (tab hsS)) σ tSwap (.iface 131 (.ptr S 3)) [.int .i64 i, .int .i64 j] = some (.tup [], σ') ∧ Hq σ' S B b z m cap junk (sw H i j) f ∧ Only σ σ' (fun q => q = B ∨ q ∈ H) := by
  have hx := at_mem hi
  have hy := at_mem hj
  have hxy : at_ H i ≠ at_ H j := fun e => hij (at_inj Q.nd hi hj e)
  have xB : at_ H i ≠ B := fun e => Q.bh (e ▸ hx)
  have yB : at_ H j ≠ B := fun e => Q.bh (e ▸ hy)
  have ei : elemPtr 1 i (.sl B 0 H.length cap 1) = some (.ptr B i) := by rw [elemPtr_sl hi]; simp
  have ej : elemPtr 1 j (.sl B 0 H.length cap 1) = some (.ptr B j) := by rw [elemPtr_sl hj]; simp
  have gx := Q.ht i hi
  have gy := Q.ht j hj
  have pi := ptrs_part (H := H) (junk := junk) hi
  have pj := ptrs_part (H := H) (junk := junk) hj
  have hlen : (ptrs H ++ junk).length = H.length + junk.length := by simp [ptrs]
  have t1 : storeAt σ 1 (.ptr B i) (.ptr (at_ H j) 0) = some (σ.set B (some (.cells (ptrs (H.set i (at_ H j)) ++ junk)))) := by
    rw [store_one Q.hb (by omega) (by simp) rfl, ptrs_set hi]
  have t2 : storeAt (σ.set B (some (.cells (ptrs (H.set i (at_ H j)) ++ junk)))) 1 (.ptr B j) (.ptr (at_ H i) 0) = some (σ.set B (some (.cells (ptrs (sw H i j) ++ junk)))) := by
    rw [store_one (get_set_same _ _ _) (by simp [ptrs]; omega) (by simp) rfl, ptrs_set (by simpa using hj)]
    simp [sw]
  have hs' := fun k => at_sw hi hj k
  have si : at_ (sw H i j) i = at_ H j := by rw [hs']; simp [tr, hij]
  have sj : at_ (sw H i j) j = at_ H i := by rw [hs']; simp [tr]
  have g1B : (σ.set B (some (.cells (ptrs (sw H i j) ++ junk)))).get B = some (ptrs (sw H i j) ++ junk) := get_set_same _ _ _
  have g1 : ∀ q, q ≠ B → (σ.set B (some (.cells (ptrs (sw H i j) ++ junk)))).get q = σ.get q := fun q hq => by rw [get_set, if_neg hq]
  have hB1 : ∀ q, q ≠ B → (σ.set B (some (.cells (ptrs (sw H i j) ++ junk)))).heap q = σ.heap q := fun q hq => by simp [St.set, hq]
  have n1 : (σ.set B (some (.cells (ptrs (sw H i j) ++ junk)))).next = σ.next := rfl
  have v1 : (σ.set B (some (.cells (ptrs (sw H i j) ++ junk)))).ver = σ.ver := rfl
  have qi := ptrs_part (H := sw H i j) (junk := junk) (k := i) (by simpa using hi)
  have qj := ptrs_part (H := sw H i j) (junk := junk) (k := j) (by simpa using hj)
  rw [si] at qi
  rw [sj] at qj
  have hQ : ev (tab hsS) 128 [.sl B 0 H.length cap 1, .int .i64 i, .int .i64 j] σ = some (.tup [], ((σ.set B (some (.cells (ptrs (sw H i j) ++ junk)))).set (at_ H j) (some (.cells (thc (f (at_ H j)) i)))).set (at_ H i) (some (.cells (thc (f (at_ H i)) j)))) := by
    rw [ev_raw (tab128 hsS)]
    simp (disch := first | omega | (simp only [rkl]; omega)) only [rk1, rk2, rk3, rk4, rk5, Arg.get, ret1, AV.cells, AV.isCell, addOff, minmaxL, Cap.room, Cap.cut, cutI, isSt, resultOf, Function.comp_apply, Function.comp_def, beq_self_eq_true, if_true, if_false, ite_true, ite_false, reduceCtorEq, bne_self_eq_false, Option.some.injEq, Prod.mk.injEq, ↓reduceIte, Nat.reduceEqDiff, Nat.reduceAdd, Nat.reduceMul, Nat.reduceSub, Nat.reduceLeDiff, Nat.reduceLT, Int.reduceLT, Int.reduceLE, Int.reduceEq, Int.reduceAdd, Int.reduceSub, Int.reduceNeg, Int.reduceToNat, List.mapM_cons, List.mapM_nil, Option.pure_def, Option.bind_eq_bind, eq_self, decide_true, decide_false, code128]
    rw [drawn (seq_d128_1 _)]
    simp (disch := first | omega | (simp only [rkl]; omega)) only [rk1, rk2, rk3, rk4, rk5, Arg.get, ret1, AV.cells, AV.isCell, addOff, minmaxL, Cap.room, Cap.cut, cutI, isSt, resultOf, Function.comp_apply, Function.comp_def, beq_self_eq_true, if_true, if_false, ite_true, ite_false, reduceCtorEq, bne_self_eq_false, Option.some.injEq, Prod.mk.injEq, ↓reduceIte, Nat.reduceEqDiff, Nat.reduceAdd, Nat.reduceMul, Nat.reduceSub, Nat.reduceLeDiff, Nat.reduceLT, Int.reduceLT, Int.reduceLE, Int.reduceEq, Int.reduceAdd, Int.reduceSub, Int.reduceNeg, Int.reduceToNat, List.mapM_cons, List.mapM_nil, Option.pure_def, Option.bind_eq_bind, eq_self, decide_true, decide_false, d128_1, ei, ej, Q.hb, pi, pj, t1, t2]
    rw [drawn (seq_d128_2 _)]
    generalize σ.set B (some (.cells (ptrs (sw H i j) ++ junk))) = s1 at g1B g1
    have gx1 := (g1 _ xB).trans gx
    have gy1 := (g1 _ yB).trans gy
    have u1 : storeAt s1 1 (.ptr (at_ H j) 4) (.int .i64 i) = some (s1.set (at_ H j) (some (.cells (thc (f (at_ H j)) i)))) := by rw [store_one gy1 (by simp [thc]) (by simp) rfl]; rfl
    have gx2 : (s1.set (at_ H j) (some (.cells (thc (f (at_ H j)) i)))).get (at_ H i) = some (thc (f (at_ H i)) i) := by rw [get_set, if_neg hxy]; exact gx1
    have u2 : storeAt (s1.set (at_ H j) (some (.cells (thc (f (at_ H j)) i)))) 1 (.ptr (at_ H i) 4) (.int .i64 j) = some ((s1.set (at_ H j) (some (.cells (thc (f (at_ H j)) i)))).set (at_ H i) (some (.cells (thc (f (at_ H i)) j)))) := by rw [store_one gx2 (by simp [thc]) (by simp) rfl]; rfl
    simp (disch := first | omega | (simp only [rkl]; omega)) only [rk1, rk2, rk3, rk4, rk5, Arg.get, ret1, AV.cells, AV.isCell, addOff, minmaxL, Cap.room, Cap.cut, cutI, isSt, resultOf, Function.comp_apply, Function.comp_def, beq_self_eq_true, if_true, if_false, ite_true, ite_false, reduceCtorEq, bne_self_eq_false, Option.some.injEq, Prod.mk.injEq, ↓reduceIte, Nat.reduceEqDiff, Nat.reduceAdd, Nat.reduceMul, Nat.reduceSub, Nat.reduceLeDiff, Nat.reduceLT, Int.reduceLT, Int.reduceLE, Int.reduceEq, Int.reduceAdd, Int.reduceSub, Int.reduceNeg, Int.reduceToNat, List.mapM_cons, List.mapM_nil, Option.pure_def, Option.bind_eq_bind, eq_self, decide_true, decide_false, d128_2, ei, ej, g1B, qi, qj, u1, u2]
  refine ⟨_, (inv_at Q.hs rfl _).trans hQ, ⟨?_, ?_, fun k hk => ?_, (sw_perm hi hj).nodup_iff.2 Q.nd, Q.sb, fun h => Q.sh ((sw_perm hi hj).mem_iff.1 h), fun h => Q.bh ((sw_perm hi hj).mem_iff.1 h), by simpa using Q.few⟩, ⟨rfl, rfl, fun q hq => ?_⟩⟩
  · have a1 : S ≠ at_ H i := fun e => Q.sh (e ▸ hx)
    have a2 : S ≠ at_ H j := fun e => Q.sh (e ▸ hy)
    rw [get_set, if_neg a1, get_set, if_neg a2, g1 _ Q.sb, Q.hs, sw_len]
  · rw [get_set, if_neg xB.symm, get_set, if_neg yB.symm, g1B]
  · have hk' : k < H.length := by simpa using hk
    by_cases e1 : k = j
    · subst e1
      rw [sj, get_set_same]
    · by_cases e2 : k = i
      · subst e2
        rw [si, get_set, if_neg hxy.symm, get_set_same]
      · have ek : at_ (sw H i j) k = at_ H k := by rw [hs']; simp [tr, e1, e2]
        have b1 : at_ H k ≠ at_ H i := fun e => e2 (at_inj Q.nd hk' hi e)
        have b2 : at_ H k ≠ at_ H j := fun e => e1 (at_inj Q.nd hk' hj e)
        rw [ek, get_set, if_neg b1, get_set, if_neg b2, g1 _ (fun e => Q.bh (e ▸ at_mem hk'))]
        exact Q.ht k hk'
  · have c1 : q ≠ B := fun e => hq (.inl e)
    have c2 : q ≠ at_ H i := fun e => hq (.inr (e ▸ hx))
    have c3 : q ≠ at_ H j := fun e => hq (.inr (e ▸ hy))
    simp [St.set, c1, c2, c3]
end
end Go.Proofs.Ytkhalpmmdlppkaa
