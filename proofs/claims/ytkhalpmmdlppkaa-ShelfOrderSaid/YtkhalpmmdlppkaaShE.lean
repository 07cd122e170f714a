/-
  THE SHELF: one is put on the heap.
-/
import Derived.Test.YtkhalpmmdlppkaaShD
namespace Go.Proofs.Ytkhalpmmdlppkaa
set_option linter.unusedSimpArgs false
set_option linter.unusedVariables false
open Go.Vm

/-- More blocks; of the old ones only some are other. -/
structure Frm (σ σ' : St) (F : Vm.Id → Prop) : Prop where
  next : σ.next ≤ σ'.next
  ver : σ'.ver = σ.ver
  heap : ∀ q, q.o < σ.next → ¬ F q → σ'.heap q = σ.heap q

theorem Frm.refl (σ : St) (F : Vm.Id → Prop) : Frm σ σ F := ⟨Nat.le_refl _, rfl, fun _ _ _ => rfl⟩
theorem Frm.get {σ σ' : St} {F : Vm.Id → Prop} (h : Frm σ σ' F) {q : Vm.Id} (h1 : q.o < σ.next) (hq : ¬ F q) : σ'.get q = σ.get q := by simp only [St.get, h.heap q h1 hq]
theorem Only.frm {σ σ' : St} {F : Vm.Id → Prop} (h : Only σ σ' F) : Frm σ σ' F := ⟨by rw [h.next]; exact Nat.le_refl _, h.ver, fun q _ hq => h.heap q hq⟩
theorem Frm.trans {σ σ' σ'' : St} {F G : Vm.Id → Prop} (h : Frm σ σ' F) (h' : Frm σ' σ'' G) (hg : ∀ q, q.o < σ.next → G q → F q) : Frm σ σ'' F :=
  ⟨Nat.le_trans h.next h'.next, h'.ver.trans h.ver, fun q h1 h2 => (h'.heap q (Nat.lt_of_lt_of_le h1 h.next) fun g => h2 (hg q h1 g)).trans (h.heap q h1 h2)⟩
theorem Frm.weak {σ σ' : St} {F G : Vm.Id → Prop} (h : Frm σ σ' F) (hw : ∀ q, F q → G q) : Frm σ σ' G := ⟨h.next, h.ver, fun q h1 hq => h.heap q h1 fun hf => hq (hw q hf)⟩
theorem Frm.new (σ : St) (cs : List AV) (F : Vm.Id → Prop) : Frm σ (σ.new cs) F := by
  refine ⟨by simp [St.new], rfl, fun j hj _ => ?_⟩
  have : ¬ (j = ⟨σ.next, 0, 0⟩) := fun e => by subst e; simp at hj
  simp [St.new, this]

theorem new_get {σ : St} {cs : List AV} {q : Vm.Id} (h : q.o < σ.next) : (σ.new cs).get q = σ.get q := by
  rw [get_new, if_neg (fun e => by subst e; simp at h)]
theorem splice_one {cs : List AV} {i : Nat} (v : AV) (h : i < cs.length) : splice cs i [v] = cs.set i v := by
  simp only [splice, List.length_singleton, List.singleton_append]
  rw [List.set_eq_take_append_cons_drop, if_pos h]

theorem tassert_127 (E : CallH) (ρ : Env) (σ : St) (k : Nat) (p : AV) (h : ρ k = .iface 127 p) : Ins.ev E ρ σ (.tassert 127 true .nilp (.t k)) = some (.tup [p, .bool true], σ) := by
  simp [Ins.ev, Arg.get, h]
def assV (t : TypeId) (zero : AV) (σ : St) : AV → Option (AV × St)
  | .iface u v => if u = t then some (.tup [v, .bool true], σ) else some (.tup [zero, .bool false], σ)
  | .nilIface => some (.tup [zero, .bool false], σ)
  | _ => none
theorem ev_tassert (E : CallH) (ρ : Env) (σ : St) (t : TypeId) (zero : AV) (x : Arg) : Ins.ev E ρ σ (.tassert t true zero x) = assV t zero σ (x.get ρ) := by
  simp only [Ins.ev]
  cases x.get ρ <;> rfl
theorem assV_yes (t : TypeId) (zero : AV) (σ : St) (v : AV) : assV t zero σ (.iface t v) = some (.tup [v, .bool true], σ) := by simp [assV]

section
variable {S : Vm.Id} {b z m : AV} {f : Vm.Id → Ky}

theorem app_in {s : St} {B x : Vm.Id} {H : List Vm.Id} {junk : List AV} {c : Nat} (hg : s.get B = some (ptrs H ++ junk)) (h1 : H.length + 1 ≤ c) (h2 : c ≤ H.length + junk.length) :
    appendTo s 1 8 1 [.ptr x 0] (.sl B 0 H.length (.ge c) 1) = some (.sl B 0 (H.length + 1) (.ge c) 1, s.set B (some (.cells (ptrs (H ++ [x]) ++ junk.tail)))) := by
  simp only [appendTo, hg, Cap.room]
  rw [if_neg (by simp), if_pos h1]
  simp only [Vm.storeCells, hg]
  rw [if_pos ⟨by simp [ptrs]; omega, rfl⟩]
  simp only [Option.map_some, Nat.zero_add, Nat.mul_one]
  rw [splice_one _ (by simp [ptrs]; omega)]
  congr 3
  obtain ⟨y, j, rfl⟩ : ∃ y j, junk = y :: j := by
    cases junk with
    | nil => simp at h2; omega
    | cons y j => exact ⟨y, j, rfl⟩
  rw [List.set_append_right _ _ (by simp [ptrs])]
  simp [ptrs]

theorem app_grow {s : St} {B x : Vm.Id} {H : List Vm.Id} {junk : List AV} {c : Nat} (hg : s.get B = some (ptrs H ++ junk)) (h1 : ¬ (H.length + 1 ≤ c)) (few : H.length < 2 ^ 40) :
    appendTo s 1 8 1 [.ptr x 0] (.sl B 0 H.length (.ge c) 1) = some (.sl ⟨s.next, 0, 0⟩ 0 (H.length + 1) (.ge (H.length + 1)) 1, (s.set B none).new (ptrs (H ++ [x]))) := by
  have hmx : (H.length + 1) * 8 ≤ lenMax := by have : lenMax = 2 ^ 46 := rfl; omega
  have hc : (ptrs (H ++ [x])).all AV.isCell = true := by simp [ptrs, List.all_eq_true, AV.isCell]
  simp only [appendTo, hg, Cap.room]
  rw [if_neg (by simp), if_neg h1, if_pos ⟨by simp [ptrs], hmx⟩]
  have e : List.take (H.length * 1) (List.drop 0 (ptrs H ++ junk)) ++ [AV.ptr x 0] = ptrs (H ++ [x]) := by
    rw [List.drop_zero, Nat.mul_one, List.take_left' (ptrs_len H)]; simp [ptrs]
  rw [e, newCells_ok hc]
  rfl

structure Pushed (σ σ1 : St) (S x : Vm.Id) (b z m : AV) (f : Vm.Id → Ky) (H : List Vm.Id) (cc : AV) (B : Vm.Id) (c : Nat) (junk : List AV) : Prop where
  Q : Hq σ1 S B b z m (.ge c) junk (H ++ [x]) f
  h1 : (H ++ [x]).length ≤ c
  h2 : c ≤ (H ++ [x]).length + junk.length
  hB : B.o < σ1.next
  fr : Frm σ σ1 (fun q => q = S ∨ q = x ∨ q ∈ H ∨ refId cc = some q)
  where_ : refId cc = some B ∨ σ.next ≤ B.o

/-- How the heap lies behind a shelf's last cell. -/
inductive Hc (σ : St) (S : Vm.Id) (b z m : AV) (f : Vm.Id → Ky) : List Vm.Id → AV → Prop
  | nil (hs : σ.get S = some [b, z, m, .nilsl]) : Hc σ S b z m f [] .nilsl
  | sl {B : Vm.Id} {c : Nat} {junk : List AV} {H : List Vm.Id} (Q : Hq σ S B b z m (.ge c) junk H f) (h1 : H.length ≤ c) (h2 : c ≤ H.length + junk.length) (hB : B.o < σ.next) : Hc σ S b z m f H (.sl B 0 H.length (.ge c) 1)

theorem push135 {σ : St} {H : List Vm.Id} {cc : AV} (h : Hc σ S b z m f H cc) {x : Vm.Id} {a : Int} (hx : σ.get x = some (thc (f x) a)) (xH : x ∉ H) (xS : x ≠ S) (xB : refId cc ≠ some x) (lx : x.o < σ.next) (lS : S.o < σ.next) (lH : ∀ y ∈ H, y.o < σ.next) (few : H.length + 1 < 2 ^ 40) :
    ∃ σ1 B c junk, invV (ev (tab hsS)) σ tPush (.iface 131 (.ptr S 3)) [.iface 127 (.ptr x 0)] = some (.tup [], σ1) ∧ Pushed σ σ1 S x b z m f H cc B c junk := by
  have hs : σ.get S = some [b, z, m, cc] := by cases h with | nil hs => exact hs | sl Q => exact Q.hs
  have hlen : ∀ s : St, lenIn s .sl cc = some H.length := by intro s; cases h <;> rfl
  have t1 : storeAt σ 1 (.ptr x 4) (.int .i64 H.length) = some (σ.set x (some (.cells (thc (f x) H.length)))) := by rw [store_one hx (by simp [thc]) (by simp) rfl]; rfl
  have hs1 : (σ.set x (some (.cells (thc (f x) H.length)))).get S = some [b, z, m, cc] := by rw [get_set, if_neg xS.symm]; exact hs
  have hz : ∀ s : St, newCells s [.ptr x 0] = some (⟨s.next, 0, 0⟩, s.new [.ptr x 0]) := fun s => newCells_ok rfl
  have hf1 : fillV [.nilp] [(0, 1, [.ptr x 0])] = some [.ptr x 0] := rfl
  -- the state in which the list is made longer
  have key : ∀ {σ3 : St} {B : Vm.Id} {c : Nat}, appendTo ((σ.set x (some (.cells (thc (f x) H.length)))).new [.ptr x 0]) 1 8 1 [.ptr x 0] cc = some (.sl B 0 (H.length + 1) (.ge c) 1, σ3) → σ3.get S = some [b, z, m, cc] →
      invV (ev (tab hsS)) σ tPush (.iface 131 (.ptr S 3)) [.iface 127 (.ptr x 0)] = some (.tup [], σ3.set S (some (.cells [b, z, m, .sl B 0 (H.length + 1) (.ge c) 1]))) := by
    intro σ3 B c ha h3
    have t2 : storeAt σ3 1 (.ptr S 3) (.sl B 0 (H.length + 1) (.ge c) 1) = some (σ3.set S (some (.cells [b, z, m, .sl B 0 (H.length + 1) (.ge c) 1]))) := by rw [store_one h3 (by simp) (by simp) rfl]; rfl
    have hs2 : ((σ.set x (some (.cells (thc (f x) H.length)))).new [.ptr x 0]).get S = some [b, z, m, cc] := by rw [new_get (by exact lS)]; exact hs1
    have hel : elems ((σ.set x (some (.cells (thc (f x) H.length)))).new [.ptr x 0]) 1 1 (.sl ⟨σ.next, 0, 0⟩ 0 1 (.ex 1) 1) = some [.ptr x 0] := by
      have : ((σ.set x (some (.cells (thc (f x) H.length)))).new [.ptr x 0]).get ⟨σ.next, 0, 0⟩ = some [.ptr x 0] := by rw [get_new]; exact if_pos rfl
      simp only [elems, this]; rfl
    rw [inv_none rfl, ev_raw (tab135 hsS)]
    simp (disch := first | omega | (simp only [rkl]; omega)) only [rk1, rk2, rk3, rk4, rk5, Arg.get, ret1, AV.cells, AV.isCell, addOff, minmaxL, Cap.room, Cap.cut, cutI, isSt, resultOf, Function.comp_apply, Function.comp_def, beq_self_eq_true, if_true, if_false, ite_true, ite_false, reduceCtorEq, bne_self_eq_false, Option.some.injEq, Prod.mk.injEq, ↓reduceIte, Nat.reduceEqDiff, Nat.reduceAdd, Nat.reduceMul, Nat.reduceSub, Nat.reduceLeDiff, Nat.reduceLT, Int.reduceLT, Int.reduceLE, Int.reduceEq, Int.reduceAdd, Int.reduceSub, Int.reduceNeg, Int.reduceToNat, List.mapM_cons, List.mapM_nil, Option.pure_def, Option.bind_eq_bind, eq_self, decide_true, decide_false, code135, p135_1, p135_2, p135_3, p135_4, ev_tassert, assV_yes, hs, hlen, t1, hs1, hz, hf1, hel, ha, t2]
  have key2 : ∀ {σ3 : St} {B : Vm.Id} {c : Nat} {junk : List AV}, σ3.get B = some (ptrs (H ++ [x]) ++ junk) → (∀ q, q.o < σ.next → refId cc ≠ some q → σ3.heap q = (σ.set x (some (.cells (thc (f x) H.length)))).heap q) → σ.next ≤ σ3.next → σ3.ver = σ.ver →
      (H ++ [x]).length ≤ c → c ≤ (H ++ [x]).length + junk.length → B.o < σ3.next → (refId cc = some B ∨ σ.next ≤ B.o) → S ≠ B → B ∉ H → (∀ y ∈ H, refId cc ≠ some y) → refId cc ≠ some S → H.Nodup → (∀ k, k < H.length → σ.get (at_ H k) = some (thc (f (at_ H k)) k)) → x ≠ B →
      Pushed σ (σ3.set S (some (.cells [b, z, m, .sl B 0 (H.length + 1) (.ge c) 1]))) S x b z m f H cc B c junk := by
    intro σ3 B c junk gB hh hn hv h1 h2 hB hw sB bH ccH ccS nd ht xB'
    have xg : σ3.get x = some (thc (f x) H.length) := by
      have := hh x lx xB
      simp only [St.get, this]; simp [St.set]
    have yg : ∀ y ∈ H, σ3.get y = σ.get y := fun y hy => by
      have := hh y (lH y hy) (ccH y hy)
      have hne : y ≠ x := fun e => xH (e ▸ hy)
      simp only [St.get, this]; simp [St.set, hne]
    refine ⟨⟨?_, ?_, fun k hk => ?_, ?_, sB, ?_, ?_, by simp; omega⟩, h1, h2, hB, ⟨hn, hv, fun q hq hF => ?_⟩, hw⟩
    · rw [get_set_same]; simp
    · rw [get_set, if_neg sB.symm, gB]
    · by_cases hk2 : k < H.length
      · have e : at_ (H ++ [x]) k = at_ H k := by simp [at_, List.getD, List.getElem?_append_left hk2]
        have hm := at_mem hk2
        rw [e, get_set, if_neg ?_, yg _ hm, ht k hk2]
        intro e2
        have hc1 := ht k hk2
        rw [e2, hs] at hc1
        simp [thc] at hc1
      · have e0 : k = H.length := by simp at hk; omega
        subst e0
        have e : at_ (H ++ [x]) H.length = x := by simp [at_, List.getD]
        rw [e, get_set, if_neg xS, xg]
    · rw [List.nodup_append]
      exact ⟨nd, by simp, fun y hy w hw e => by simp at hw; subst hw; subst e; exact xH hy⟩
    · intro hS
      rcases List.mem_append.1 hS with hS | hS
      · obtain ⟨k, hk, e⟩ := List.getElem_of_mem hS
        have hc1 := ht k hk
        rw [at_get hk, e, hs] at hc1
        simp [thc] at hc1
      · simp at hS; exact xS hS.symm
    · intro hS
      rcases List.mem_append.1 hS with hS | hS
      · exact bH hS
      · simp at hS; exact xB' hS.symm
    · have c1 : q ≠ S := fun e => hF (.inl e)
      have c2 : q ≠ x := fun e => hF (.inr (.inl e))
      have := hh q hq (fun e => hF (.inr (.inr (.inr e))))
      simp [St.set, c1]
      rw [this]; simp [St.set, c2]
  have new_heap : ∀ (s : St) (cs : List AV) (q : Vm.Id), q.o < s.next → (s.new cs).heap q = s.heap q := fun s cs q hq => by
    have : ¬ (q = ⟨s.next, 0, 0⟩) := fun e => by subst e; simp at hq
    simp [St.new, this]
  have n1 : (σ.set x (some (.cells (thc (f x) H.length)))).next = σ.next := rfl
  generalize hσ1 : σ.set x (some (.cells (thc (f x) H.length))) = σ1 at *
  have v1 : σ1.ver = σ.ver := by rw [← hσ1]; rfl
  cases h with
  | nil hs' =>
    refine ⟨_, ⟨σ.next + 1, 0, 0⟩, 1, [], key (σ3 := (σ1.new [.ptr x 0]).new [.ptr x 0]) ?_ ?_, key2 ?_ (fun q hq _ => ?_) ?_ v1 (by simp) (by simp) ?_ (.inr ?_) ?_ (by simp) (by simp [refId]) (by simp [refId]) (by simp) (by simp) ?_⟩
    · rw [append_nil' (by omega) (by decide) rfl]; rw [show (σ1.new [AV.ptr x 0]).next = σ.next + 1 by simp [St.new, n1]]; rfl
    · rw [new_get (by simp [St.new, n1]; omega), new_get (by rw [n1]; exact lS)]; exact hs1
    · rw [get_new, if_pos (by simp [St.new, n1])]; rfl
    · rw [new_heap _ _ _ (by simp [St.new, n1]; omega), new_heap _ _ _ (by rw [n1]; exact hq)]
    · simp [St.new, n1]; omega
    · simp [St.new, n1]
    · simp
    · intro e; rw [e] at lS; simp at lS; omega
    · intro e; rw [e] at lx; simp at lx; omega
  | sl Q h1 h2 hB =>
    rename_i B c junk
    have xB2 : x ≠ B := fun e => xB (by simp [refId, e])
    have ccH : ∀ y ∈ H, refId (.sl B 0 H.length (.ge c) 1) ≠ some y := fun y hy e => by simp [refId] at e; exact Q.bh (e ▸ hy)
    have ccS : refId (.sl B 0 H.length (.ge c) 1) ≠ some S := fun e => by simp [refId] at e; exact Q.sb e.symm
    have gB1 : σ1.get B = some (ptrs H ++ junk) := by rw [← hσ1, get_set, if_neg xB2.symm]; exact Q.hb
    have gB2 : (σ1.new [.ptr x 0]).get B = some (ptrs H ++ junk) := by rw [new_get (by rw [n1]; exact hB)]; exact gB1
    by_cases hr : H.length + 1 ≤ c
    · refine ⟨_, B, c, junk.tail, key (app_in gB2 hr h2) ?_, key2 (get_set_same _ _ _) (fun q hq hne => ?_) ?_ v1 (by simpa using hr) (by simp; omega) ?_ (.inl rfl) Q.sb Q.bh ccH ccS Q.nd Q.ht xB2⟩
      · rw [get_set, if_neg Q.sb, new_get (by rw [n1]; exact lS)]; exact hs1
      · have e1 : q ≠ B := fun e => hne (by simp [refId, e])
        have := new_heap σ1 [.ptr x 0] q (by rw [n1]; exact hq)
        simp [St.set, e1, this]
      · simp [St.new, n1, St.set]
      · simp [St.new, n1, St.set]; omega
    · have gn : ∀ (s : St) (cs : List AV), (s.new cs).next = s.next + 1 := fun _ _ => rfl
      refine ⟨_, ⟨σ.next + 1, 0, 0⟩, H.length + 1, [], key (σ3 := ((σ1.new [.ptr x 0]).set B none).new (ptrs (H ++ [x]))) ?_ ?_, key2 ?_ (fun q hq hne => ?_) ?_ v1 (by simp) (by simp) ?_ (.inr ?_) ?_ ?_ ccH ccS Q.nd Q.ht ?_⟩
      · rw [app_grow gB2 hr (by omega), show (σ1.new [AV.ptr x 0]).next = σ.next + 1 by rw [gn, n1]]
      · rw [new_get (by show S.o < σ1.next + 1; rw [n1]; omega)]
        have : ((σ1.new [.ptr x 0]).set B none).get S = (σ1.new [.ptr x 0]).get S := by simp [St.get, St.set, Q.sb]
        rw [this, new_get (by rw [n1]; exact lS)]; exact hs1
      · rw [get_new, if_pos (by show (⟨σ.next + 1, 0, 0⟩ : Vm.Id) = ⟨σ1.next + 1, 0, 0⟩; rw [n1])]; simp
      · have e1 : q ≠ B := fun e => hne (by simp [refId, e])
        rw [new_heap _ _ _ (by show q.o < σ1.next + 1; rw [n1]; omega)]
        have := new_heap σ1 [.ptr x 0] q (by rw [n1]; exact hq)
        simp [St.set, e1, this]
      · show σ.next ≤ σ1.next + 1 + 1; omega
      · show σ.next + 1 < σ1.next + 1 + 1; omega
      · show σ.next ≤ σ.next + 1; omega
      · intro e; rw [e] at lS; simp at lS; omega
      · intro hy; have := lH _ hy; simp at this; omega
      · intro e; rw [e] at lx; simp at lx; omega
end
end Go.Proofs.Ytkhalpmmdlppkaa
