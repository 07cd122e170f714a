/-
  THE SHELF: one is put on the heap.
-/
import Derived.Test.YtkhalpmmdlppkaaQaA
namespace Go.Proofs.Ytkhalpmmdlppkaa
set_option linter.unusedSimpArgs false
set_option linter.unusedVariables false
open Go.Vm

/-- More blocks; of the old ones only some are other. -/
structure Frm (σ σ' : St) (F : Vm.Id → Prop) : Prop where
  next : σ.next ≤ σ'.next
  ver : σ'.ver = σ.ver
  heap : ∀ q, q.o < σ.next → ¬ F q → σ'.heap q = σ.heap q

theorem Frm.refl (σ : St) (F : Vm.Id → Prop) : Frm σ σ F := ⟨Nat.le_refl _, rfl, fun _ _ _ => rfl⟩
theorem Frm.get {σ σ' : St} {F : Vm.Id → Prop} (h : Frm σ σ' F) {q : Vm.Id} (h1 : q.o < σ.next) (hq : ¬ F q) : σ'.get q = σ.get q := by simp only [St.get, h.heap q h1 hq]
theorem Only.frm {σ σ' : St} {F : Vm.Id → Prop} (h : Only σ σ' F) : Frm σ σ' F := ⟨by rw [h.next]; exact Nat.le_refl _, h.ver, fun q _ hq => h.heap q hq⟩
theorem Frm.trans {σ σ' σ'' : St} {F G : Vm.Id → Prop} (h : Frm σ σ' F) (h' : Frm σ' σ'' G) (hg : ∀ q, q.o < σ.next → G q → F q) : Frm σ σ'' F :=
  ⟨Nat.le_trans h.next h'.next, h'.ver.trans h.ver, fun q h1 h2 => (h'.heap q (Nat.lt_of_lt_of_le h1 h.next) fun g => h2 (hg q h1 g)).trans (h.heap q h1 h2)⟩
theorem Frm.weak {σ σ' : St} {F G : Vm.Id → Prop} (h : Frm σ σ' F) (hw : ∀ q, F q → G q) : Frm σ σ' G := ⟨h.next, h.ver, fun q h1 hq => h.heap q h1 fun hf => hq (hw q hf)⟩
theorem Frm.new (σ : St) (cs : List AV) (F : Vm.Id → Prop) : Frm σ (σ.new cs) F := by
  refine ⟨by simp [St.new], rfl, fun j hj _ => ?_⟩
  have : ¬ (j = ⟨σ.next, 0, 0⟩) := fun e => by subst e; simp at hj
  simp [St.new, this]

theorem new_get {σ : St} {cs : List AV} {q : Vm.Id} (h : q.o < σ.next) : (σ.new cs).get q = σ.get q := by
  rw [get_new, if_neg (fun e => by subst e; simp at h)]
theorem splice_one {cs : List AV} {i : Nat} (v : AV) (h : i < cs.length) : splice cs i [v] = cs.set i v := by
  simp only [splice, List.length_singleton, List.singleton_append]
  rw [List.set_eq_take_append_cons_drop, if_pos h]

theorem tassert_127 (E : CallH) (ρ : Env) (σ : St) (k : Nat) (p : AV) (h : ρ k = .iface 127 p) : Ins.ev E ρ σ (.tassert 127 true .nilp (.t k)) = some (.tup [p, .bool true], σ) := by
  simp [Ins.ev, Arg.get, h]
def assV (t : TypeId) (zero : AV) (σ : St) : AV → Option (AV × St)
  | .iface u v => if u = t then some (.tup [v, .bool true], σ) else some (.tup [zero, .bool false], σ)
  | .nilIface => some (.tup [zero, .bool false], σ)
  | _ => none
theorem ev_tassert (E : CallH) (ρ : Env) (σ : St) (t : TypeId) (zero : AV) (x : Arg) : Ins.ev E ρ σ (.tassert t true zero x) = assV t zero σ (x.get ρ) := by
  simp only [Ins.ev]
  cases x.get ρ <;> rfl
theorem assV_yes (t : TypeId) (zero : AV) (σ : St) (v : AV) : assV t zero σ (.iface t v) = some (.tup [v, .bool true], σ) := by simp [assV]

section
variable {S : Vm.Id} {b z m : AV} {f : Vm.Id → Ky}

theorem app_in {s : St} {B x : Vm.Id} {H : List Vm.Id} {junk : List AV} {c : Nat} (hg : s.get B = some (ptrs H ++ junk)) (h1 : H.length + 1 ≤ c) (h2 : c ≤ H.length + junk.length) :
    appendTo s 1 8 1 [.ptr x 0] (.sl B 0 H.length (.ge c) 1) = some (.sl B 0 (H.length + 1) (.ge c) 1, s.set B (some (.cells (ptrs (H ++ [x]) ++ junk.tail)))) := by
  simp only [appendTo, hg, Cap.room]
  rw [if_neg (by simp), if_pos h1]
  simp only [Vm.storeCells, hg]
  rw [if_pos ⟨by simp [ptrs]; omega, rfl⟩]
  simp only [Option.map_some, Nat.zero_add, Nat.mul_one]
  rw [splice_one _ (by simp [ptrs]; omega)]
  congr 3
  obtain ⟨y, j, rfl⟩ : ∃ y j, junk = y :: j := by
    cases junk with
    | nil => simp at h2; omega
    | cons y j => exact ⟨y, j, rfl⟩
  rw [List.set_append_right _ _ (by simp [ptrs])]
  simp [ptrs]

theorem app_grow {s : St} {B x : Vm.Id} {H : List Vm.Id} {junk : List AV} {c : Nat} (hg : s.get B = some (ptrs H ++ junk)) (h1 : ¬ (H.length + 1 ≤ c)) (few : H.length < 2 ^ 40) :
    appendTo s 1 8 1 [.ptr x 0] (.sl B 0 H.length (.ge c) 1) = some (.sl ⟨s.next, 0, 0⟩ 0 (H.length + 1) (.ge (H.length + 1)) 1, (s.set B none).new (ptrs (H ++ [x]))) := by
  have hmx : (H.length + 1) * 8 ≤ lenMax := by have : lenMax = 2 ^ 46 := rfl; omega
  have hc : (ptrs (H ++ [x])).all AV.isCell = true := by simp [ptrs, List.all_eq_true, AV.isCell]
  simp only [appendTo, hg, Cap.room]
  rw [if_neg (by simp), if_neg h1, if_pos ⟨by simp [ptrs], hmx⟩]
  have e : List.take (H.length * 1) (List.drop 0 (ptrs H ++ junk)) ++ [AV.ptr x 0] = ptrs (H ++ [x]) := by
    rw [List.drop_zero, Nat.mul_one, List.take_left' (ptrs_len H)]; simp [ptrs]
  rw [e, newCells_ok hc]
  rfl

structure Pushed (σ σ1 : St) (S x : Vm.Id) (b z m : AV) (f : Vm.Id → Ky) (H : List Vm.Id) (cc : AV) (B : Vm.Id) (c : Nat) (junk : List AV) : Prop where
  Q : Hq σ1 S B b z m (.ge c) junk (H ++ [x]) f
  h1 : (H ++ [x]).length ≤ c
  h2 : c ≤ (H ++ [x]).length + junk.length
  hB : B.o < σ1.next
  fr : Frm σ σ1 (fun q => q = S ∨ q = x ∨ q ∈ H ∨ refId cc = some q)
  where_ : refId cc = some B ∨ σ.next ≤ B.o

/-- How the heap lies behind a shelf's last cell. -/
inductive Hc (σ : St) (S : Vm.Id) (b z m : AV) (f : Vm.Id → Ky) : List Vm.Id → AV → Prop
  | nil (hs : σ.get S = some [b, z, m, .nilsl]) : Hc σ S b z m f [] .nilsl
  | sl {B : Vm.Id} {c : Nat} {junk : List AV} {H : List Vm.Id} (Q : Hq σ S B b z m (.ge c) junk H f) (h1 : H.length ≤ c) (h2 : c ≤ H.length + junk.length) (hB : B.o < σ.next) : Hc σ S b z m f H (.sl B 0 H.length (.ge c) 1)

theorem push135 {σ : St} {H : List Vm.Id} {cc : AV} (h : Hc σ S b z m f H cc) {x : Vm.Id} {a : Int} (hx : σ.get x = some (thc (f x) a)) (xH : x ∉ H) (xS : x ≠ S) (xB : refId cc ≠ some x) (lx : x.o < σ.next) (lS : S.o < σ.next) (lH : ∀ y ∈ H, y.o < σ.next) (few : H.length + 1 < 2 ^ 40) :
    ∃ σ1 B c junk, invV (ev (tab hsS)) σ tPush (.iface 131 (.ptr S 3)) [.iface 127 (.ptr x 0)] = some (.tup [], σ1) ∧ Pushed σ σ1 S x b z m f H cc B c junk := by
  have hs : σ.get S = some [b, z, m, cc] := by cases h with | nil hs => exact hs | sl Q => exact Q.hs
  have hlen : ∀ s : St, lenIn s .sl cc = some H.length := by intro s; cases h <;> rfl
  have t1 : storeAt σ 1 (.ptr x 4) (.int .i64 H.length) = some (σ.set x (some (.cells (thc (f x) H.length)))) := by rw [store_one hx (by simp [thc]) (by simp) rfl]; rfl
  have hs1 : (σ.set x (some (.cells (thc (f x) H.length)))).get S = some [b, z, m, cc] := by rw [get_set, if_neg xS.symm]; exact hs
  have hz : ∀ s : St, newCells s [.ptr x 0] = some (⟨s.next, 0, 0⟩, s.new [.ptr x 0]) := fun s => newCells_ok rfl
  have hf1 : fillV [.nilp] [(0, 1, [.ptr x 0])] = some [.ptr x 0] := rfl
  -- the state in which the list is made longer
  have key : ∀ {σ3 : St} {B : Vm.Id} {c : Nat}, appendTo ((σ.set x (some (.cells (thc (f x) H.length)))).new [.ptr x 0]) 1 8 1 [.ptr x 0] cc = some (.sl B 0 (H.length + 1) (.ge c) 1, σ3) → σ3.get S = some [b, z, m, cc] →
      invV (ev (tab hsS)) σ tPush (.iface 131 (.ptr S 3)) [.iface 127 (.ptr x 0)] = some (.tup [], σ3.set S (some (.cells [b, z, m, .sl B 0 (H.length + 1) (.ge c) 1]))) := by
    intro σ3 B c ha h3
    have t2 : storeAt σ3 1 (.ptr S 3) (.sl B 0 (H.length + 1) (.ge c) 1) = some (σ3.set S (some (.cells [b, z, m, .sl B 0 (H.length + 1) (.ge c) 1]))) := by rw [store_one h3 (by simp) (by simp) rfl]; rfl
    have hs2 : ((σ.set x (some (.cells (thc (f x) H.length)))).new [.ptr x 0]).get S = some [b, z, m, cc] := by rw [new_get (by exact lS)]; exact hs1
    have hel : elems ((σ.set x (some (.cells (thc (f x) H.length)))).new [.ptr x 0]) 1 1 (.sl ⟨σ.next, 0, 0⟩ 0 1 (.ex 1) 1) = some [.ptr x 0] := by
      have : ((σ.set x (some (.cells (thc (f x) H.length)))).new [.ptr x 0]).get ⟨σ.next, 0, 0⟩ = some [.ptr x 0] := by rw [get_new]; exact if_pos rfl
      simp only [elems, this]; rfl
    rw [inv_none rfl, ev_raw (tab135 hsS)]
    simp (disch := first | omega | (simp only [rkl]; omega)) only [rk1, rk2, rk3, rk4, rk5, Arg.get, ret1, AV.cells, AV.isCell, addOff, minmaxL, Cap.room, Cap.cut, cutI, isSt, resultOf, Function.comp_apply, Function.comp_def, beq_self_eq_true, if_true, if_false, ite_true, ite_false, reduceCtorEq, bne_self_eq_false, Option.some.injEq, Prod.mk.injEq, ↓reduceIte, Nat.reduceEqDiff, Nat.reduceAdd, Nat.reduceMul, Nat.reduceSub, Nat.reduceLeDiff, Nat.reduceLT, Int.reduceLT, Int.reduceLE, Int.reduceEq, Int.reduceAdd, Int.reduceSub, Int.reduceNeg, Int.reduceToNat, List.mapM_cons, List.mapM_nil, Option.pure_def, Option.bind_eq_bind, eq_self, decide_true, decide_false, code135, p135_1, p135_2, p135_3, p135_4, ev_tassert, assV_yes, hs, hlen, t1, hs1, hz, hf1, hel, ha, t2]
  have key2 : ∀ {σ3 : St} {B : Vm.Id} {c : Nat} {junk : List AV}, σ3.get B = some (ptrs (H ++ [x]) ++ junk) → (∀ q, q.o < σ.next → refId cc ≠ some q → σ3.heap q = (σ.set x (some (.cells (thc (f x) H.length)))).heap q) → σ.next ≤ σ3.next → σ3.ver = σ.ver →
      (H ++ [x]).length ≤ c → c ≤ (H ++ [x]).length + junk.length → B.o < σ3.next → (refId cc = some B ∨ σ.next ≤ B.o) → S ≠ B → B ∉ H → (∀ y ∈ H, refId cc ≠ some y) → refId cc ≠ some S → H.Nodup → (∀ k, k < H.length → σ.get (at_ H k) = some (thc (f (at_ H k)) k)) → x ≠ B →
      Pushed σ (σ3.set S (some (.cells [b, z, m, .sl B 0 (H.length + 1) (.ge c) 1]))) S x b z m f H cc B c junk := by
    intro σ3 B c junk gB hh hn hv h1 h2 hB hw sB bH ccH ccS nd ht xB'
    have xg : σ3.get x = some (thc (f x) H.length) := by
      have := hh x lx xB
      simp only [St.get, this]; simp [St.set]
    have yg : ∀ y ∈ H, σ3.get y = σ.get y := fun y hy => by
      have := hh y (lH y hy) (ccH y hy)
      have hne : y ≠ x := fun e => xH (e ▸ hy)
      simp only [St.get, this]; simp [St.set, hne]
    refine ⟨⟨?_, ?_, fun k hk => ?_, ?_, sB, ?_, ?_, by simp; omega⟩, h1, h2, hB, ⟨hn, hv, fun q hq hF => ?_⟩, hw⟩
    · rw [get_set_same]; simp
    · rw [get_set, if_neg sB.symm, gB]
    · by_cases hk2 : k < H.length
      · have e : at_ (H ++ [x]) k = at_ H k := by simp [at_, List.getD, List.getElem?_append_left hk2]
        have hm := at_mem hk2
        rw [e, get_set, if_neg ?_, yg _ hm, ht k hk2]
        intro e2
        have hc1 := ht k hk2
        rw [e2, hs] at hc1
        simp [thc] at hc1
      · have e0 : k = H.length := by simp at hk; omega
        subst e0
        have e : at_ (H ++ [x]) H.length = x := by simp [at_, List.getD]
        rw [e, get_set, if_neg xS, xg]
    · rw [List.nodup_append]
      exact ⟨nd, by simp, fun y hy w hw e => by simp at hw; subst hw; subst e; exact xH hy⟩
    · intro hS
      rcases List.mem_append.1 hS with hS | hS
      · obtain ⟨k, hk, e⟩ := List.getElem_of_mem hS
        have hc1 := ht k hk
        rw [at_get hk, e, hs] at hc1
        simp [thc] at hc1
      · simp at hS; exact xS hS.symm
    · intro hS
      rcases List.mem_append.1 hS with hS | hS
      · exact bH hS
      · simp at hS; exact xB' hS.symm
    · have c1 : q ≠ S := fun e => hF (.inl e)
      have c2 : q ≠ x := fun e => hF (.inr (.inl e))
      have := hh q hq (fun e => hF (.inr (.inr (.inr e))))
      simp [St.set, c1]
      rw [this]; simp [St.set, c2]
  have new_heap : ∀ (s : St) (cs : List AV) (q : Vm.Id), q.o < s.next → (s.new cs).heap q = s.heap q := fun s cs q hq => by
    have : ¬ (q = ⟨s.next, 0, 0⟩) := fun e => by subst e; simp at hq
    simp [St.new, this]
  have n1 : (σ.set x (some (.cells (thc (f x) H.length)))).next = σ.next := rfl
  generalize hσ1 : σ.set x (some (.cells (thc (f x) H.length))) = σ1 at *
  have v1 : σ1.ver = σ.ver := by rw [← hσ1]; rfl
  cases h with
  | nil hs' =>
    refine ⟨_, ⟨σ.next + 1, 0, 0⟩, 1, [], key (σ3 := (σ1.new [.ptr x 0]).new [.ptr x 0]) ?_ ?_, key2 ?_ (fun q hq _ => ?_) ?_ v1 (by simp) (by simp) ?_ (.inr ?_) ?_ (by simp) (by simp [refId]) (by simp [refId]) (by simp) (by simp) ?_⟩
    · rw [append_nil' (by omega) (by decide) rfl]; rw [show (σ1.new [AV.ptr x 0]).next = σ.next + 1 by simp [St.new, n1]]; rfl
    · rw [new_get (by simp [St.new, n1]; omega), new_get (by rw [n1]; exact lS)]; exact hs1
    · rw [get_new, if_pos (by simp [St.new, n1])]; rfl
    · rw [new_heap _ _ _ (by simp [St.new, n1]; omega), new_heap _ _ _ (by rw [n1]; exact hq)]
    · simp [St.new, n1]; omega
    · simp [St.new, n1]
    · simp
    · intro e; rw [e] at lS; simp at lS; omega
    · intro e; rw [e] at lx; simp at lx; omega
  | sl Q h1 h2 hB =>
    rename_i B c junk
    have xB2 : x ≠ B := fun e => xB (by simp [refId, e])
    have ccH : ∀ y ∈ H, refId (.sl B 0 H.length (.ge c) 1) ≠ some y := fun y hy e => by simp [refId] at e; exact Q.bh (e ▸ hy)
    have ccS : refId (.sl B 0 H.length (.ge c) 1) ≠ some S := fun e => by simp [refId] at e; exact Q.sb e.symm
    have gB1 : σ1.get B = some (ptrs H ++ junk) := by rw [← hσ1, get_set, if_neg xB2.symm]; exact Q.hb
    have gB2 : (σ1.new [.ptr x 0]).get B = some (ptrs H ++ junk) := by rw [new_get (by rw [n1]; exact hB)]; exact gB1
    by_cases hr : H.length + 1 ≤ c
    · refine ⟨_, B, c, junk.tail, key (app_in gB2 hr h2) ?_, key2 (get_set_same _ _ _) (fun q hq hne => ?_) ?_ v1 (by simpa using hr) (by simp; omega) ?_ (.inl rfl) Q.sb Q.bh ccH ccS Q.nd Q.ht xB2⟩
      · rw [get_set, if_neg Q.sb, new_get (by rw [n1]; exact lS)]; exact hs1
      · have e1 : q ≠ B := fun e => hne (by simp [refId, e])
        have := new_heap σ1 [.ptr x 0] q (by rw [n1]; exact hq)
        simp [St.set, e1, this]
      · simp [St.new, n1, St.set]
      · simp [St.new, n1, St.set]; omega
    · have gn : ∀ (s : St) (cs : List AV), (s.new cs).next = s.next + 1 := fun _ _ => rfl
      refine ⟨_, ⟨σ.next + 1, 0, 0⟩, H.length + 1, [], key (σ3 := ((σ1.new [.ptr x 0]).set B none).new (ptrs (H ++ [x]))) ?_ ?_, key2 ?_ (fun q hq hne => ?_) ?_ v1 (by simp) (by simp) ?_ (.inr ?_) ?_ ?_ ccH ccS Q.nd Q.ht ?_⟩
      · rw [app_grow gB2 hr (by omega), show (σ1.new [AV.ptr x 0]).next = σ.next + 1 by rw [gn, n1]]
      · rw [new_get (by show S.o < σ1.next + 1; rw [n1]; omega)]
        have : ((σ1.new [.ptr x 0]).set B none).get S = (σ1.new [.ptr x 0]).get S := by simp [St.get, St.set, Q.sb]
        rw [this, new_get (by rw [n1]; exact lS)]; exact hs1
      · rw [get_new, if_pos (by show (⟨σ.next + 1, 0, 0⟩ : Vm.Id) = ⟨σ1.next + 1, 0, 0⟩; rw [n1])]; simp
      · have e1 : q ≠ B := fun e => hne (by simp [refId, e])
        rw [new_heap _ _ _ (by show q.o < σ1.next + 1; rw [n1]; omega)]
        have := new_heap σ1 [.ptr x 0] q (by rw [n1]; exact hq)
        simp [St.set, e1, this]
      · show σ.next ≤ σ1.next + 1 + 1; omega
      · show σ.next + 1 < σ1.next + 1 + 1; omega
      · show σ.next ≤ σ.next + 1; omega
      · intro e; rw [e] at lS; simp at lS; omega
      · intro hy; have := lH _ hy; simp at this; omega
      · intro e; rw [e] at lx; simp at lx; omega
end
/-
  THE SHELF: Push, Fix and Remove, on a shelf's heap.
-/

section
variable {S : Vm.Id} {b z m : AV} {f : Vm.Id → Ky} {σ : St} {H : List Vm.Id} {cc : AV}

theorem Hc.hs (h : Hc σ S b z m f H cc) : σ.get S = some [b, z, m, cc] := by cases h with | nil hs => exact hs | sl Q => exact Q.hs
theorem Hc.len (h : Hc σ S b z m f H cc) (s : St) : lenIn s .sl cc = some H.length := by cases h <;> rfl
theorem Hc.ht (h : Hc σ S b z m f H cc) : ∀ k, k < H.length → σ.get (at_ H k) = some (thc (f (at_ H k)) k) := by cases h with | nil => simp | sl Q => exact Q.ht
theorem Hc.nd (h : Hc σ S b z m f H cc) : H.Nodup := by cases h with | nil => simp | sl Q => exact Q.nd
theorem Hc.sh (h : Hc σ S b z m f H cc) : S ∉ H := by cases h with | nil => simp | sl Q => exact Q.sh
theorem Hc.sb (h : Hc σ S b z m f H cc) : refId cc ≠ some S := by cases h with | nil => simp [refId] | sl Q => intro e; simp [refId] at e; exact Q.sb e.symm
theorem Hc.bh (h : Hc σ S b z m f H cc) : ∀ y ∈ H, refId cc ≠ some y := by cases h with | nil => simp | sl Q => intro y hy e; simp [refId] at e; exact Q.bh (e ▸ hy)
theorem Hc.few (h : Hc σ S b z m f H cc) : H.length < 2 ^ 40 := by cases h with | nil => simp | sl Q => exact Q.few
theorem Hc.lb (h : Hc σ S b z m f H cc) : ∀ B, refId cc = some B → B.o < σ.next := by cases h with | nil => simp [refId] | sl Q _ _ hB => intro B e; simp [refId] at e; exact e ▸ hB

theorem push_ev (h : Hc σ S b z m f H cc) {x : Vm.Id} {a : Int} (hx : σ.get x = some (thc (f x) a)) (xH : x ∉ H) (xS : x ≠ S) (xB : refId cc ≠ some x) (lx : x.o < σ.next) (lS : S.o < σ.next) (lH : ∀ y ∈ H, y.o < σ.next) (few : H.length + 1 < 2 ^ 40) :
    ∃ σ' cc', ev (tab hsS) 76 [.iface 131 (.ptr S 3), .iface 127 (.ptr x 0)] σ = some (.tup [], σ') ∧ Hc σ' S b z m f (upL ltK f (H ++ [x]) H.length) cc' ∧ Frm σ σ' (fun q => q = S ∨ q = x ∨ q ∈ H ∨ refId cc = some q) ∧
      (∀ B, refId cc' = some B → refId cc = some B ∨ σ.next ≤ B.o) := by
  obtain ⟨σ1, B, c, junk, e1, P⟩ := push135 h hx xH xS xB lx lS lH few
  have el := inv_len P.Q
  obtain ⟨σ2, e2, Q2, o2⟩ := up_ev P.Q (j := H.length) (by simp)
  have hl : ((H ++ [x]).length : Int) - 1 = (H.length : Int) := by simp
  have hp := upL_perm (lt := ltK) (f := f) H.length (H := H ++ [x]) (by simp)
  have hll : (upL ltK f (H ++ [x]) H.length).length = (H ++ [x]).length := hp.length_eq
  refine ⟨σ2, .sl B 0 (upL ltK f (H ++ [x]) H.length).length (.ge c) 1, ?_, .sl Q2 (by rw [hll]; exact P.h1) (by rw [hll]; exact P.h2) (by rw [o2.next]; exact P.hB), P.fr.trans o2.frm fun q hq hF => ?_, fun B' e => ?_⟩
  · rw [ev_raw (tab76 hsS)]
    simp (disch := first | omega | (simp only [rkl]; omega)) only [rk1, rk2, rk3, rk4, rk5, Arg.get, ret1, AV.cells, AV.isCell, addOff, minmaxL, Cap.room, Cap.cut, cutI, isSt, resultOf, Function.comp_apply, Function.comp_def, beq_self_eq_true, if_true, if_false, ite_true, ite_false, reduceCtorEq, bne_self_eq_false, Option.some.injEq, Prod.mk.injEq, ↓reduceIte, Nat.reduceEqDiff, Nat.reduceAdd, Nat.reduceMul, Nat.reduceSub, Nat.reduceLeDiff, Nat.reduceLT, Int.reduceLT, Int.reduceLE, Int.reduceEq, Int.reduceAdd, Int.reduceSub, Int.reduceNeg, Int.reduceToNat, List.mapM_cons, List.mapM_nil, Option.pure_def, Option.bind_eq_bind, eq_self, decide_true, decide_false, code76, p76_1, p76_2, ev_invoke, e1, el, hl, e2]
  · rcases hF with rfl | hF
    · rcases P.where_ with hw | hw
      · exact .inr (.inr (.inr hw))
      · omega
    · rcases List.mem_append.1 hF with hF | hF
      · exact .inr (.inr (.inl hF))
      · simp at hF; exact .inr (.inl hF)
  · simp only [refId, Option.some.injEq] at e; subst e; exact P.where_

theorem fix80 (h : Hc σ S b z m f H cc) {i : Nat} (hi : i < H.length) :
    ∃ σ', ev (tab hsS) 80 [.iface 131 (.ptr S 3), .int .i64 i] σ = some (.tup [], σ') ∧ Hc σ' S b z m f (fixL ltK f H i H.length) cc ∧ Only σ σ' (fun q => q ∈ H ∨ refId cc = some q) := by
  cases h with
  | nil => simp at hi
  | sl Q h1 h2 hB =>
    rename_i B c junk
    obtain ⟨σ', e, Q', o⟩ := fix_ev Q hi
    have hl : (fixL ltK f H i H.length).length = H.length := (fixL_perm (Nat.le_refl _) hi).length_eq
    refine ⟨σ', e, ?_, o.weak fun q hq => hq.symm.imp id fun e => by rw [e]; rfl⟩
    have := Hc.sl Q' (by rw [hl]; exact h1) (by rw [hl]; exact h2) (by rw [o.next]; exact hB)
    rw [hl] at this
    exact this

theorem remove81 (h : Hc σ S b z m f H cc) {i : Nat} (hi : i < H.length) :
    ∃ σ' x cc', ev (tab hsS) 81 [.iface 131 (.ptr S 3), .int .i64 i] σ = some (x, σ') ∧ Hc σ' S b z m f (cutL ltK f H i).dropLast cc' ∧ σ'.get (at_ H i) = some (thc (f (at_ H i)) (-1)) ∧
      Only σ σ' (fun q => q = S ∨ q ∈ H ∨ refId cc = some q) ∧ refId cc' = refId cc := by
  cases h with
  | nil => simp at hi
  | sl Q h1 h2 hB =>
    rename_i B c junk
    obtain ⟨σ', x, e, Q', g, o⟩ := remove_ev Q hi h1
    have hl : (cutL ltK f H i).length = H.length := (cutL_perm hi).length_eq
    refine ⟨σ', x, _, e, .sl Q' (by simp [hl]; omega) (by simp [hl]; omega) (by rw [o.next]; exact hB), g, o.weak fun q hq => ?_, rfl⟩
    rcases hq with hq | hq | hq
    · exact .inl hq
    · exact .inr (.inr (by rw [hq]; rfl))
    · exact .inr (.inl hq)
end
/-
  THE SHELF: what it holds; how a thing is found.
-/

abbrev KT : EqT := .st [(0, (1, .int)), (1, (1, .int))]
def kx (v u : Int) : AV := .agg [.int .u32 v, .int .u32 u]
theorem eqv_kx (v u v' u' : Int) : eqv KT (kx v u) (kx v' u') = some (decide (v = v') && decide (u = u')) := by
  by_cases h1 : v = v' <;> by_cases h2 : u = u' <;> simp [eqv, eqvL, Vm.part, isSt, kx, h1, h2]

section
variable {α : Type} (key : α → Int × Int)
def hit (v u : Int) (x : α) : Bool := decide (v = (key x).1) && decide (u = (key x).2)
def posOf (L : List α) (v u : Int) : Option Nat := L.findIdx? (hit key v u)

theorem findKey_kx (v u : Int) : ∀ (L : List α) (i : Nat), findKey KT (kx v u) (L.map fun x => kx (key x).1 (key x).2) i = some ((L.findIdx? (hit key v u)).map (· + i))
  | [], i => by simp [findKey]
  | x :: L, i => by
    rw [List.map_cons, findKey, eqv_kx, List.findIdx?_cons]
    cases h : hit key v u x with
    | true => simp only [hit] at h; rw [h]; simp
    | false =>
      simp only [hit] at h; rw [h]
      simp only [findKey_kx v u L (i + 1)]
      cases L.findIdx? (hit key v u) with
      | none => simp
      | some j => simp; omega
theorem findIn_kx (L : List α) (v u : Int) : findIn KT (kx v u) (L.map fun x => kx (key x).1 (key x).2) = some (posOf key L v u) := by
  unfold findIn posOf
  rw [eqv_kx, if_pos (by simp), findKey_kx]
  cases L.findIdx? (hit key v u) <;> simp
theorem posOf_some {L : List α} {v u : Int} {j : Nat} (h : posOf key L v u = some j) : ∃ (hj : j < L.length), (key L[j]).1 = v ∧ (key L[j]).2 = u := by
  unfold posOf at h
  rw [List.findIdx?_eq_some_iff_getElem] at h
  obtain ⟨hj, h1, _⟩ := h
  simp only [hit, Bool.and_eq_true, decide_eq_true_eq] at h1
  exact ⟨hj, h1.1.symm, h1.2.symm⟩
theorem posOf_none {L : List α} {v u : Int} (h : posOf key L v u = none) : ∀ x ∈ L, ¬ ((key x).1 = v ∧ (key x).2 = u) := by
  unfold posOf at h
  rw [List.findIdx?_eq_none_iff] at h
  intro x hx e
  have := h x hx
  simp [hit, e.1, e.2] at this
end

def kf (f : Vm.Id → Ky) (x : Vm.Id) : Int × Int := ((f x).v, (f x).u)
def keysOf (f : Vm.Id → Ky) (L : List Vm.Id) : List AV := L.map fun x => kx (kf f x).1 (kf f x).2
def sumL (f : Vm.Id → Ky) (L : List Vm.Id) : Int := (L.map fun x => (f x).sz).sum

/-- What a shelf is, where it stands: the things that are there, and the clean ones among them as a heap. -/
structure Rep (σ : St) (S M : Vm.Id) (bud : Int) (L H : List Vm.Id) (f : Vm.Id → Ky) (cc : AV) : Prop where
  hc : Hc σ S (.int .i64 bud) (.int .i64 (sumL f L)) (.map M) f H cc
  hm : σ.heap M = some (.map (keysOf f L) (ptrs L))
  sub : ∀ x ∈ H, x ∈ L
  off : ∀ x ∈ L, x ∉ H → σ.get x = some (thc (f x) (-1))
  nd : L.Nodup
  key : ∀ x ∈ L, ∀ y ∈ L, (f x).v = (f y).v → (f x).u = (f y).u → x = y
  lS : S.o < σ.next
  lM : M.o < σ.next
  lL : ∀ x ∈ L, x.o < σ.next
  mS : M ≠ S
  mL : M ∉ L
  sL : S ∉ L
  mB : refId cc ≠ some M
  bL : ∀ x ∈ L, refId cc ≠ some x
  few : L.length ≤ 65536
  sz : ∀ x ∈ L, 0 ≤ (f x).sz ∧ (f x).sz ≤ 1048576

/-- The blocks that are a shelf's. -/
def Fp (S M : Vm.Id) (L : List Vm.Id) (cc : AV) (q : Vm.Id) : Prop := q = S ∨ q = M ∨ q ∈ L ∨ refId cc = some q

theorem Hc.frm {σ σ' : St} {S : Vm.Id} {b z m : AV} {f : Vm.Id → Ky} {H : List Vm.Id} {cc : AV} (h : Hc σ S b z m f H cc) (hh : ∀ q, (q = S ∨ q ∈ H ∨ refId cc = some q) → σ'.heap q = σ.heap q) (hn : σ.next ≤ σ'.next) : Hc σ' S b z m f H cc := by
  have hg : ∀ q, (q = S ∨ q ∈ H ∨ refId cc = some q) → σ'.get q = σ.get q := fun q hq => by simp only [St.get, hh q hq]
  cases h with
  | nil hs => exact .nil ((hg S (.inl rfl)).trans hs)
  | sl Q h1 h2 hB => exact .sl ⟨(hg S (.inl rfl)).trans Q.hs, (hg _ (.inr (.inr rfl))).trans Q.hb, fun k hk => (hg _ (.inr (.inl (at_mem hk)))).trans (Q.ht k hk), Q.nd, Q.sb, Q.sh, Q.bh, Q.few⟩ h1 h2 (by omega)

theorem Hc.cong {σ : St} {S : Vm.Id} {b z m : AV} {f g : Vm.Id → Ky} {H : List Vm.Id} {cc : AV} (h : Hc σ S b z m f H cc) (hg : ∀ x ∈ H, f x = g x) : Hc σ S b z m g H cc := by
  cases h with
  | nil hs => exact .nil hs
  | sl Q h1 h2 hB => exact .sl ⟨Q.hs, Q.hb, fun k hk => by rw [← hg _ (at_mem hk)]; exact Q.ht k hk, Q.nd, Q.sb, Q.sh, Q.bh, Q.few⟩ h1 h2 hB

theorem Hc.size {σ : St} {S : Vm.Id} {b z m z' : AV} {f : Vm.Id → Ky} {H : List Vm.Id} {cc : AV} (h : Hc σ S b z m f H cc) : Hc (σ.set S (some (.cells [b, z', m, cc]))) S b z' m f H cc := by
  have hg : ∀ q, q ≠ S → (σ.set S (some (.cells [b, z', m, cc]))).get q = σ.get q := fun q hq => by rw [get_set, if_neg hq]
  cases h with
  | nil hs => exact .nil (get_set_same _ _ _)
  | sl Q h1 h2 hB => exact .sl ⟨get_set_same _ _ _, (hg _ Q.sb.symm).trans Q.hb, fun k hk => (hg _ (fun e => Q.sh (e ▸ at_mem hk))).trans (Q.ht k hk), Q.nd, Q.sb, Q.sh, Q.bh, Q.few⟩ h1 h2 hB

theorem sum_le {f : Vm.Id → Ky} : ∀ {L : List Vm.Id}, (∀ x ∈ L, 0 ≤ (f x).sz ∧ (f x).sz ≤ 1048576) → 0 ≤ sumL f L ∧ sumL f L ≤ L.length * 1048576
  | [], _ => by simp [sumL]
  | x :: L, h => by
    have h1 := h x (by simp)
    have h2 := sum_le (L := L) fun y hy => h y (by simp [hy])
    simp only [sumL, List.map_cons, List.sum_cons, List.length_cons] at h2 ⊢
    omega

section
variable {σ : St} {S M : Vm.Id} {bud : Int} {L H : List Vm.Id} {f : Vm.Id → Ky} {cc : AV} (R : Rep σ S M bud L H f cc)
include R

theorem Rep.hs : σ.get S = some [.int .i64 bud, .int .i64 (sumL f L), .map M, cc] := R.hc.hs
theorem Rep.thing {x : Vm.Id} (hx : x ∈ L) : ∃ a : Int, σ.get x = some (thc (f x) a) ∧ ((∃ k, k < H.length ∧ at_ H k = x ∧ a = k) ∨ (x ∉ H ∧ a = -1)) := by
  by_cases h : x ∈ H
  · obtain ⟨k, hk, e⟩ := List.getElem_of_mem h
    have e : at_ H k = x := by rw [at_get hk]; exact e
    exact ⟨k, by rw [← e]; exact R.hc.ht k hk, .inl ⟨k, hk, e, rfl⟩⟩
  · exact ⟨-1, R.off x hx h, .inr ⟨h, rfl⟩⟩
theorem Rep.fewH : H.length < 2 ^ 40 := R.hc.few

/-- A shelf whose blocks are as they were. -/
theorem Rep.frm {σ' : St} {F : Vm.Id → Prop} (h : Frm σ σ' F) (hF : ∀ q, Fp S M L cc q → ¬ F q) : Rep σ' S M bud L H f cc := by
  have lb : ∀ q, Fp S M L cc q → q.o < σ.next := by
    rintro q (rfl | rfl | hq | hq)
    · exact R.lS
    · exact R.lM
    · exact R.lL q hq
    · exact R.hc.lb q hq
  have hh : ∀ q, Fp S M L cc q → σ'.heap q = σ.heap q := fun q hq => h.heap q (lb q hq) (hF q hq)
  have hn := h.next
  refine ⟨R.hc.frm (fun q hq => hh q ?_) hn, (hh M (.inr (.inl rfl))).trans R.hm, R.sub, fun x hx hxH => ?_, R.nd, R.key, by have := R.lS; omega, by have := R.lM; omega, fun x hx => by have := R.lL x hx; omega, R.mS, R.mL, R.sL, R.mB, R.bL, R.few, R.sz⟩
  · rcases hq with hq | hq | hq
    · exact .inl hq
    · exact .inr (.inr (.inl (R.sub q hq)))
    · exact .inr (.inr (.inr hq))
  · have := hh x (.inr (.inr (.inl hx)))
    simp only [St.get, this]
    exact R.off x hx hxH

theorem Rep.push {x : Vm.Id} (hx : x ∈ L) (xH : x ∉ H) : ∃ σ' cc', ev (tab hsS) 76 [.iface 131 (.ptr S 3), .iface 127 (.ptr x 0)] σ = some (.tup [], σ') ∧ Rep σ' S M bud L (upL ltK f (H ++ [x]) H.length) f cc' ∧ Frm σ σ' (Fp S M L cc) ∧
    (∀ q, Fp S M L cc' q → Fp S M L cc q ∨ σ.next ≤ q.o) := by
  have xS : x ≠ S := fun e => R.sL (e ▸ hx)
  have hb : H.length + 1 < 2 ^ 40 := by
    have h1 : H.length ≤ L.length := List.Nodup.length_le_of_subset R.hc.nd R.sub
    have := R.few; omega
  obtain ⟨σ', cc', e, h', fr, hw⟩ := push_ev R.hc (R.off x hx xH) xH xS (R.bL x hx) (R.lL x hx) R.lS (fun y hy => R.lL y (R.sub y hy)) hb
  have hp := upL_perm (lt := ltK) (f := f) H.length (H := H ++ [x]) (by simp)
  have hmem : ∀ y, y ∈ upL ltK f (H ++ [x]) H.length ↔ y ∈ H ∨ y = x := fun y => by rw [hp.mem_iff]; simp
  have hF : ∀ q, (q = S ∨ q = x ∨ q ∈ H ∨ refId cc = some q) → Fp S M L cc q := by
    rintro q (rfl | rfl | hq | hq)
    · exact .inl rfl
    · exact .inr (.inr (.inl hx))
    · exact .inr (.inr (.inl (R.sub q hq)))
    · exact .inr (.inr (.inr hq))
  have hn := fr.next
  refine ⟨σ', cc', e, ⟨h', ?_, fun y hy => ?_, fun y hy hyH => ?_, R.nd, R.key, by have := R.lS; omega, by have := R.lM; omega, fun y hy => by have := R.lL y hy; omega, R.mS, R.mL, R.sL, fun e => ?_, fun y hy e => ?_, R.few, R.sz⟩, fr.weak hF, fun q hq => ?_⟩
  · rw [fr.heap M R.lM ?_]; exact R.hm
    rintro (h | h | h | h)
    · exact R.mS h
    · exact R.mL (h ▸ hx)
    · exact R.mL (R.sub M h)
    · exact R.mB h
  · rcases (hmem y).1 hy with h | h
    · exact R.sub y h
    · exact h ▸ hx
  · have n1 : y ∉ H := fun h => hyH ((hmem y).2 (.inl h))
    have n2 : y ≠ x := fun h => hyH ((hmem y).2 (.inr h))
    rw [fr.get (R.lL y hy) ?_]; exact R.off y hy n1
    rintro (h | h | h | h)
    · exact R.sL (h ▸ hy)
    · exact n2 h
    · exact n1 h
    · exact R.bL y hy h
  · rcases hw M e with h | h
    · exact R.mB h
    · have := R.lM; omega
  · rcases hw y e with h | h
    · exact R.bL y hy h
    · have := R.lL y hy; omega
  · rcases hq with hq | hq | hq | hq
    · exact .inl (.inl hq)
    · exact .inl (.inr (.inl hq))
    · exact .inl (.inr (.inr (.inl hq)))
    · exact (hw q hq).imp (fun h => .inr (.inr (.inr h))) id
end
/-
  THE SHELF: find, Put, Size, Len, New.
-/

def lookV (kt : EqT) (zero : AV) (σ : St) (m k : AV) : Option (AV × St) := (mapOf σ m).bind fun p => (findIn kt k p.1).bind fun r => match r with | some j => (p.2[j]?).map fun v => (v, σ) | none => some (zero, σ)
theorem ev_lookup (E : CallH) (ρ : Env) (σ : St) (kt : EqT) (zero : AV) (m k : Arg) : Ins.ev E ρ σ (.lookup kt zero false m k) = lookV kt zero σ (m.get ρ) (k.get ρ) := by
  simp only [Ins.ev, lookV]
  rfl
def updV (kt : EqT) (σ : St) (m k v : AV) : Option (AV × St) := match m with
    | .map i => match σ.heap i with
      | some (.map ks vs) => (findIn kt k ks).bind fun r =>
        match r with
        | some j => if sameKey (ks.getD j .nilp) k = true then some (.tup [], σ.set i (some (.map ks (vs.set j v)))) else none
        | none => some (.tup [], σ.set i (some (.map (ks ++ [k]) (vs ++ [v]))))
      | _ => none
    | _ => none
theorem ev_mapUpd (E : CallH) (ρ : Env) (σ : St) (kt : EqT) (m k v : Arg) : Ins.ev E ρ σ (.mapUpd kt m k v) = updV kt σ (m.get ρ) (k.get ρ) (v.get ρ) := rfl
def delV (kt : EqT) (σ : St) (m k : AV) : Option (AV × St) := match m with
    | .map i => match σ.heap i with
      | some (.map ks vs) => (findIn kt k ks).bind fun r =>
        match r with
        | some j => some (.tup [], σ.set i (some (.map (ks.eraseIdx j) (vs.eraseIdx j))))
        | none => some (.tup [], σ)
      | _ => none
    | _ => none
theorem ev_delete (E : CallH) (ρ : Env) (σ : St) (kt : EqT) (m k : Arg) : Ins.ev E ρ σ (.delete kt m k) = delV kt σ (m.get ρ) (k.get ρ) := rfl

/-- What is found. -/
def lookP (f : Vm.Id → Ky) (L : List Vm.Id) (v u : Int) : AV := match posOf (kf f) L v u with | some j => .ptr (at_ L j) 0 | none => .nilp

theorem look_map {σ : St} {M : Vm.Id} {f : Vm.Id → Ky} {L : List Vm.Id} (hm : σ.heap M = some (.map (keysOf f L) (ptrs L))) (v u : Int) :
    lookV KT .nilp σ (.map M) (.agg [.int .u32 v, .int .u32 u]) = some (lookP f L v u, σ) := by
  have hf := findIn_kx (kf f) L v u
  simp only [lookV, mapOf, hm, Option.bind_some]
  rw [show AV.agg [.int .u32 v, .int .u32 u] = kx v u from rfl]
  simp only [keysOf, hf, Option.bind_some, lookP]
  cases h : posOf (kf f) L v u with
  | none => rfl
  | some j =>
    obtain ⟨hj, _⟩ := posOf_some (kf f) h
    simp [ptrs, at_eq hj]

theorem upd_map {σ : St} {M : Vm.Id} {f : Vm.Id → Ky} {L : List Vm.Id} (hm : σ.heap M = some (.map (keysOf f L) (ptrs L))) {v u : Int} (h : posOf (kf f) L v u = none) (p : AV) :
    updV KT σ (.map M) (.agg [.int .u32 v, .int .u32 u]) p = some (.tup [], σ.set M (some (.map (keysOf f L ++ [kx v u]) (ptrs L ++ [p])))) := by
  have hf := findIn_kx (kf f) L v u
  simp only [updV, hm]
  rw [show AV.agg [.int .u32 v, .int .u32 u] = kx v u from rfl]
  rw [show findIn KT (kx v u) (keysOf f L) = some (posOf (kf f) L v u) from hf, h]
  rfl

def upd (f : Vm.Id → Ky) (x : Vm.Id) (y : Ky) : Vm.Id → Ky := fun z => if z = x then y else f z
theorem upd_same (f : Vm.Id → Ky) (x : Vm.Id) (y : Ky) : upd f x y x = y := by simp [upd]
theorem upd_other {f : Vm.Id → Ky} {x z : Vm.Id} {y : Ky} (h : z ≠ x) : upd f x y z = f z := by simp [upd, h]

section
variable {σ : St} {S M : Vm.Id} {bud : Int} {L H : List Vm.Id} {f : Vm.Id → Ky} {cc : AV} (R : Rep σ S M bud L H f cc)
include R

theorem find_ev (v u : Int) : ev (tab hsS) 79 [.ptr S 0, .agg [.int .u32 v, .int .u32 u]] σ = some (lookP f L v u, σ.new [.int .u32 v, .int .u32 u]) := by
  have hs : (σ.new [.int .u32 v, .int .u32 u]).get S = some [.int .i64 bud, .int .i64 (sumL f L), .map M, cc] := (new_get R.lS).trans R.hs
  have hm : (σ.new [.int .u32 v, .int .u32 u]).heap M = some (.map (keysOf f L) (ptrs L)) := ((Frm.new σ _ (fun _ => False)).heap M R.lM (fun h => h)).trans R.hm
  have hl := look_map hm v u
  have hz : newCells σ [.int .u32 v, .int .u32 u] = some (⟨σ.next, 0, 0⟩, σ.new [.int .u32 v, .int .u32 u]) := newCells_ok rfl
  rw [ev_raw (tab79 hsS)]
  simp (disch := first | omega | (simp only [rkl]; omega)) only [rk1, rk2, rk3, rk4, rk5, Arg.get, ret1, AV.cells, AV.isCell, addOff, minmaxL, Cap.room, Cap.cut, cutI, isSt, resultOf, Function.comp_apply, Function.comp_def, beq_self_eq_true, if_true, if_false, ite_true, ite_false, reduceCtorEq, bne_self_eq_false, Option.some.injEq, Prod.mk.injEq, ↓reduceIte, Nat.reduceEqDiff, Nat.reduceAdd, Nat.reduceMul, Nat.reduceSub, Nat.reduceLeDiff, Nat.reduceLT, Int.reduceLT, Int.reduceLE, Int.reduceEq, Int.reduceAdd, Int.reduceSub, Int.reduceNeg, Int.reduceToNat, List.mapM_cons, List.mapM_nil, Option.pure_def, Option.bind_eq_bind, eq_self, decide_true, decide_false, code79, p79_1, p79_2, hz]
  rw [drawn (seq_d79_4 _)]
  simp (disch := first | omega | (simp only [rkl]; omega)) only [rk1, rk2, rk3, rk4, rk5, Arg.get, ret1, AV.cells, AV.isCell, addOff, minmaxL, Cap.room, Cap.cut, cutI, isSt, resultOf, Function.comp_apply, Function.comp_def, beq_self_eq_true, if_true, if_false, ite_true, ite_false, reduceCtorEq, bne_self_eq_false, Option.some.injEq, Prod.mk.injEq, ↓reduceIte, Nat.reduceEqDiff, Nat.reduceAdd, Nat.reduceMul, Nat.reduceSub, Nat.reduceLeDiff, Nat.reduceLT, Int.reduceLT, Int.reduceLE, Int.reduceEq, Int.reduceAdd, Int.reduceSub, Int.reduceNeg, Int.reduceToNat, List.mapM_cons, List.mapM_nil, Option.pure_def, Option.bind_eq_bind, eq_self, decide_true, decide_false, d79_4, hs, ev_lookup, hl]

theorem size_shelf : ev (tab hsS) 45 [.ptr S 0] σ = some (.int .i64 (sumL f L), σ) := by
  have hs := R.hs
  rw [ev_raw (tab45 hsS)]
  simp (disch := first | omega | (simp only [rkl]; omega)) only [rk1, rk2, rk3, rk4, rk5, Arg.get, ret1, AV.cells, AV.isCell, addOff, minmaxL, Cap.room, Cap.cut, cutI, isSt, resultOf, Function.comp_apply, Function.comp_def, beq_self_eq_true, if_true, if_false, ite_true, ite_false, reduceCtorEq, bne_self_eq_false, Option.some.injEq, Prod.mk.injEq, ↓reduceIte, Nat.reduceEqDiff, Nat.reduceAdd, Nat.reduceMul, Nat.reduceSub, Nat.reduceLeDiff, Nat.reduceLT, Int.reduceLT, Int.reduceLE, Int.reduceEq, Int.reduceAdd, Int.reduceSub, Int.reduceNeg, Int.reduceToNat, List.mapM_cons, List.mapM_nil, Option.pure_def, Option.bind_eq_bind, eq_self, decide_true, decide_false, code45, p45_1, p45_2, p45_4, hs]
theorem len_shelf : ev (tab hsS) 46 [.ptr S 0] σ = some (.int .i64 L.length, σ) := by
  have hs := R.hs
  have hl : lenIn σ .map (.map M) = some L.length := by simp [lenIn, R.hm, keysOf]
  rw [ev_raw (tab46 hsS)]
  simp (disch := first | omega | (simp only [rkl]; omega)) only [rk1, rk2, rk3, rk4, rk5, Arg.get, ret1, AV.cells, AV.isCell, addOff, minmaxL, Cap.room, Cap.cut, cutI, isSt, resultOf, Function.comp_apply, Function.comp_def, beq_self_eq_true, if_true, if_false, ite_true, ite_false, reduceCtorEq, bne_self_eq_false, Option.some.injEq, Prod.mk.injEq, ↓reduceIte, Nat.reduceEqDiff, Nat.reduceAdd, Nat.reduceMul, Nat.reduceSub, Nat.reduceLeDiff, Nat.reduceLT, Int.reduceLT, Int.reduceLE, Int.reduceEq, Int.reduceAdd, Int.reduceSub, Int.reduceNeg, Int.reduceToNat, List.mapM_cons, List.mapM_nil, Option.pure_def, Option.bind_eq_bind, eq_self, decide_true, decide_false, code46, p46_1, p46_2, p46_4, hs, hl]

/-- One more, not clean. -/
theorem Rep.add {v u sz us : Int} (h : posOf (kf f) L v u = none) (hsz : 0 ≤ sz ∧ sz ≤ 1048576) (hL : L.length < 65536) {X : Vm.Id} (hX : X = ⟨σ.next + 1, 0, 0⟩) {s4 : St}
    (h4 : s4 = ((((σ.new [.int .u32 v, .int .u32 u]).new (thc ⟨v, u, sz, us⟩ (-1))).set M (some (.map (keysOf f L ++ [kx v u]) (ptrs L ++ [.ptr X 0])))).set S (some (.cells [.int .i64 bud, .int .i64 (sumL f L + sz), .map M, cc])))) :
    Rep s4 S M bud (L ++ [X]) H (upd f X ⟨v, u, sz, us⟩) cc ∧ Frm σ s4 (Fp S M L cc) ∧ X ∉ L := by
  have XL : X ∉ L := fun e => by have := R.lL X e; rw [hX] at this; simp at this; omega
  have XS : S ≠ X := fun e => by have := R.lS; rw [e, hX] at this; simp at this; omega
  have XM : M ≠ X := fun e => by have := R.lM; rw [e, hX] at this; simp at this; omega
  have XK : X ≠ ⟨σ.next, 0, 0⟩ := by rw [hX]; simp
  have XB : refId cc ≠ some X := fun e => by have := R.hc.lb X e; rw [hX] at this; simp at this; omega
  have heap_old : ∀ q, q.o < σ.next → q ≠ S → q ≠ M → s4.heap q = σ.heap q := fun q hq h1 h2 => by
    have e1 : ¬ (q = ⟨σ.next, 0, 0⟩) := fun e => by subst e; simp at hq
    have e2 : ¬ (q = ⟨σ.next + 1, 0, 0⟩) := fun e => by subst e; simp at hq; omega
    rw [h4]; simp [St.set, St.new, h1, h2, e1, e2]
  have hfeq : ∀ y ∈ L, upd f X ⟨v, u, sz, us⟩ y = f y := fun y hy => upd_other (fun e => XL (e ▸ hy))
  have hsum : sumL (upd f X ⟨v, u, sz, us⟩) (L ++ [X]) = sumL f L + sz := by
    simp only [sumL, List.map_append, List.sum_append, List.map_cons, List.map_nil, List.sum_cons, List.sum_nil, upd_same]
    rw [List.map_congr_left fun y hy => by rw [hfeq y hy]]; omega
  have hkeys : keysOf (upd f X ⟨v, u, sz, us⟩) (L ++ [X]) = keysOf f L ++ [kx v u] := by
    simp only [keysOf, List.map_append, List.map_cons, List.map_nil, kf, upd_same]
    rw [List.map_congr_left fun y hy => by rw [hfeq y hy]]
  have gX : s4.get X = some (thc ⟨v, u, sz, us⟩ (-1)) := by
    rw [h4, get_set, if_neg XS.symm]
    have : ((((σ.new [.int .u32 v, .int .u32 u]).new (thc ⟨v, u, sz, us⟩ (-1))).set M (some (.map (keysOf f L ++ [kx v u]) (ptrs L ++ [.ptr X 0]))))).get X = ((σ.new [.int .u32 v, .int .u32 u]).new (thc ⟨v, u, sz, us⟩ (-1))).get X := by
      simp [St.get, St.set, XM.symm]
    rw [this, get_new, hX]; exact if_pos rfl
  have hn4 : s4.next = σ.next + 2 := by rw [h4]; rfl
  have h3 : Hc (((σ.new [.int .u32 v, .int .u32 u]).new (thc ⟨v, u, sz, us⟩ (-1))).set M (some (.map (keysOf f L ++ [kx v u]) (ptrs L ++ [.ptr X 0])))) S (.int .i64 bud) (.int .i64 (sumL f L)) (.map M) f H cc := by
    refine R.hc.frm (fun q hq => ?_) (by show σ.next ≤ σ.next + 1 + 1; omega)
    have hqo : q.o < σ.next := by
      rcases hq with hq | hq | hq
      · exact hq ▸ R.lS
      · exact R.lL q (R.sub q hq)
      · exact R.hc.lb q hq
    have hqM : q ≠ M := by
      rintro rfl
      rcases hq with hq | hq | hq
      · exact R.mS hq
      · exact R.mL (R.sub _ hq)
      · exact R.mB hq
    have e1 : ¬ (q = ⟨σ.next, 0, 0⟩) := fun e => by subst e; simp at hqo
    have e2 : ¬ (q = ⟨σ.next + 1, 0, 0⟩) := fun e => by subst e; simp at hqo; omega
    simp [St.set, St.new, hqM, e1, e2]
  refine ⟨⟨?_, ?_, fun x hx => List.mem_append_left _ (R.sub x hx), fun x hx hxH => ?_, ?_, fun x hx y hy hv hu => ?_, by rw [hn4]; have := R.lS; omega, by rw [hn4]; have := R.lM; omega, fun x hx => ?_, R.mS, fun e => ?_, fun e => ?_, R.mB, fun x hx => ?_, by simp; omega, fun x hx => ?_⟩, ⟨by rw [hn4]; omega, by rw [h4]; rfl, fun q hq hF => heap_old q hq (fun e => hF (.inl e)) (fun e => hF (.inr (.inl e)))⟩, XL⟩
  · rw [hsum, h4]
    exact (h3.size (z' := .int .i64 (sumL f L + sz))).cong fun x hx => (hfeq x (R.sub x hx)).symm
  · rw [hkeys, h4]
    simp [St.set, R.mS, ptrs]
  · rcases List.mem_append.1 hx with hx | hx
    · have hxS : x ≠ S := fun e => R.sL (e ▸ hx)
      have hxM : x ≠ M := fun e => R.mL (e ▸ hx)
      rw [hfeq x hx]
      simp only [St.get, heap_old x (R.lL x hx) hxS hxM]
      exact R.off x hx hxH
    · simp at hx; subst hx
      rw [upd_same]; exact gX
  · rw [List.nodup_append]
    exact ⟨R.nd, by simp, fun y hy w hw e => by simp at hw; subst hw; subst e; exact XL hy⟩
  · have hno := posOf_none (kf f) h
    rcases List.mem_append.1 hx with hx1 | hx1 <;> rcases List.mem_append.1 hy with hy1 | hy1
    · rw [hfeq x hx1, hfeq y hy1] at hv hu; exact R.key x hx1 y hy1 hv hu
    · have e : y = X := by simpa using hy1
      rw [hfeq x hx1, e, upd_same] at hv hu
      exact absurd ⟨hv, hu⟩ (hno x hx1)
    · have e : x = X := by simpa using hx1
      rw [hfeq y hy1, e, upd_same] at hv hu
      exact absurd ⟨hv.symm, hu.symm⟩ (hno y hy1)
    · simp at hx1 hy1; rw [hx1, hy1]
  · rcases List.mem_append.1 hx with hx | hx
    · have := R.lL x hx; omega
    · simp at hx; subst hx; rw [hn4, hX]; show σ.next + 1 < _; omega
  · rcases List.mem_append.1 e with e | e
    · exact R.mL e
    · simp at e; exact XM e
  · rcases List.mem_append.1 e with e | e
    · exact R.sL e
    · simp at e; exact XS e
  · rcases List.mem_append.1 hx with hx | hx
    · exact R.bL x hx
    · simp at hx; subst hx; exact XB
  · rcases List.mem_append.1 hx with hx | hx
    · rw [hfeq x hx]; exact R.sz x hx
    · simp at hx; subst hx; rw [upd_same]; exact hsz

omit R in
/-- Put. -/
theorem put_bad {sz : Int} (h : sz < 0 ∨ 1048576 < sz) (v u us : Int) (c : Bool) : ∃ σ', ev (tab hsS) 42 [.ptr S 0, .agg [.int .u32 v, .int .u32 u], .int .i64 sz, .int .i64 us, .bool c] σ = some (.int .i64 1, σ') ∧ Frm σ σ' (fun _ => False) := by
  have hz : newCells σ [.int .u32 v, .int .u32 u] = some (⟨σ.next, 0, 0⟩, σ.new [.int .u32 v, .int .u32 u]) := newCells_ok rfl
  refine ⟨_, ?_, Frm.new σ [.int .u32 v, .int .u32 u] _⟩
  rw [ev_raw (tab42 hsS)]
  by_cases h1 : sz < 0
  · simp (disch := first | omega | (simp only [rkl]; omega)) only [rk1, rk2, rk3, rk4, rk5, Arg.get, ret1, AV.cells, AV.isCell, addOff, minmaxL, Cap.room, Cap.cut, cutI, isSt, resultOf, Function.comp_apply, Function.comp_def, beq_self_eq_true, if_true, if_false, ite_true, ite_false, reduceCtorEq, bne_self_eq_false, Option.some.injEq, Prod.mk.injEq, ↓reduceIte, Nat.reduceEqDiff, Nat.reduceAdd, Nat.reduceMul, Nat.reduceSub, Nat.reduceLeDiff, Nat.reduceLT, Int.reduceLT, Int.reduceLE, Int.reduceEq, Int.reduceAdd, Int.reduceSub, Int.reduceNeg, Int.reduceToNat, List.mapM_cons, List.mapM_nil, Option.pure_def, Option.bind_eq_bind, eq_self, decide_true, decide_false, code42, p42_1, p42_2, p42_4, p42_5, hz, h1]
  · have h2 : sz > 1048576 := by omega
    simp (disch := first | omega | (simp only [rkl]; omega)) only [rk1, rk2, rk3, rk4, rk5, Arg.get, ret1, AV.cells, AV.isCell, addOff, minmaxL, Cap.room, Cap.cut, cutI, isSt, resultOf, Function.comp_apply, Function.comp_def, beq_self_eq_true, if_true, if_false, ite_true, ite_false, reduceCtorEq, bne_self_eq_false, Option.some.injEq, Prod.mk.injEq, ↓reduceIte, Nat.reduceEqDiff, Nat.reduceAdd, Nat.reduceMul, Nat.reduceSub, Nat.reduceLeDiff, Nat.reduceLT, Int.reduceLT, Int.reduceLE, Int.reduceEq, Int.reduceAdd, Int.reduceSub, Int.reduceNeg, Int.reduceToNat, List.mapM_cons, List.mapM_nil, Option.pure_def, Option.bind_eq_bind, eq_self, decide_true, decide_false, code42, p42_1, p42_2, p42_4, p42_5, hz, h1, h2]

theorem put_twice {sz : Int} (h : 0 ≤ sz ∧ sz ≤ 1048576) {v u : Int} {j : Nat} (hp : posOf (kf f) L v u = some j) (us : Int) (c : Bool) : ∃ σ', ev (tab hsS) 42 [.ptr S 0, .agg [.int .u32 v, .int .u32 u], .int .i64 sz, .int .i64 us, .bool c] σ = some (.int .i64 6, σ') ∧ Frm σ σ' (fun _ => False) := by
  have hz : newCells σ [.int .u32 v, .int .u32 u] = some (⟨σ.next, 0, 0⟩, σ.new [.int .u32 v, .int .u32 u]) := newCells_ok rfl
  have hs : (σ.new [.int .u32 v, .int .u32 u]).get S = some [.int .i64 bud, .int .i64 (sumL f L), .map M, cc] := (new_get R.lS).trans R.hs
  have hm : (σ.new [.int .u32 v, .int .u32 u]).heap M = some (.map (keysOf f L) (ptrs L)) := ((Frm.new σ _ (fun _ => False)).heap M R.lM (fun h => h)).trans R.hm
  have hl := look_map hm v u
  have hlp : lookP f L v u = .ptr (at_ L j) 0 := by unfold lookP; rw [hp]
  rw [hlp] at hl
  have h1 : ¬ (sz < 0) := by omega
  have h2 : ¬ (sz > 1048576) := by omega
  refine ⟨_, ?_, Frm.new σ [.int .u32 v, .int .u32 u] _⟩
  rw [ev_raw (tab42 hsS)]
  simp (disch := first | omega | (simp only [rkl]; omega)) only [rk1, rk2, rk3, rk4, rk5, Arg.get, ret1, AV.cells, AV.isCell, addOff, minmaxL, Cap.room, Cap.cut, cutI, isSt, resultOf, Function.comp_apply, Function.comp_def, beq_self_eq_true, if_true, if_false, ite_true, ite_false, reduceCtorEq, bne_self_eq_false, Option.some.injEq, Prod.mk.injEq, ↓reduceIte, Nat.reduceEqDiff, Nat.reduceAdd, Nat.reduceMul, Nat.reduceSub, Nat.reduceLeDiff, Nat.reduceLT, Int.reduceLT, Int.reduceLE, Int.reduceEq, Int.reduceAdd, Int.reduceSub, Int.reduceNeg, Int.reduceToNat, List.mapM_cons, List.mapM_nil, Option.pure_def, Option.bind_eq_bind, eq_self, decide_true, decide_false, code42, p42_1, p42_2, p42_4, hz, h1, h2]
  rw [drawn (seq_d42_6 _)]
  simp (disch := first | omega | (simp only [rkl]; omega)) only [rk1, rk2, rk3, rk4, rk5, Arg.get, ret1, AV.cells, AV.isCell, addOff, minmaxL, Cap.room, Cap.cut, cutI, isSt, resultOf, Function.comp_apply, Function.comp_def, beq_self_eq_true, if_true, if_false, ite_true, ite_false, reduceCtorEq, bne_self_eq_false, Option.some.injEq, Prod.mk.injEq, ↓reduceIte, Nat.reduceEqDiff, Nat.reduceAdd, Nat.reduceMul, Nat.reduceSub, Nat.reduceLeDiff, Nat.reduceLT, Int.reduceLT, Int.reduceLE, Int.reduceEq, Int.reduceAdd, Int.reduceSub, Int.reduceNeg, Int.reduceToNat, List.mapM_cons, List.mapM_nil, Option.pure_def, Option.bind_eq_bind, eq_self, decide_true, decide_false, d42_6, hs, ev_lookup, hl, p42_7]

theorem put_ok {sz : Int} (h : 0 ≤ sz ∧ sz ≤ 1048576) {v u : Int} (hp : posOf (kf f) L v u = none) (us : Int) (c : Bool) (hL : L.length < 65536) :
    ∃ σ' X cc', ev (tab hsS) 42 [.ptr S 0, .agg [.int .u32 v, .int .u32 u], .int .i64 sz, .int .i64 us, .bool c] σ = some (.int .i64 0, σ') ∧
      Rep σ' S M bud (L ++ [X]) (if c then upL ltK (upd f X ⟨v, u, sz, us⟩) (H ++ [X]) H.length else H) (upd f X ⟨v, u, sz, us⟩) cc' ∧ Frm σ σ' (Fp S M L cc) ∧ X ∉ L ∧ σ.next ≤ X.o ∧
      (∀ q, Fp S M (L ++ [X]) cc' q → Fp S M L cc q ∨ σ.next ≤ q.o) := by
  have hz : newCells σ [.int .u32 v, .int .u32 u] = some (⟨σ.next, 0, 0⟩, σ.new [.int .u32 v, .int .u32 u]) := newCells_ok rfl
  have hs : (σ.new [.int .u32 v, .int .u32 u]).get S = some [.int .i64 bud, .int .i64 (sumL f L), .map M, cc] := (new_get R.lS).trans R.hs
  have hm : (σ.new [.int .u32 v, .int .u32 u]).heap M = some (.map (keysOf f L) (ptrs L)) := ((Frm.new σ _ (fun _ => False)).heap M R.lM (fun h => h)).trans R.hm
  have hk : (σ.new [.int .u32 v, .int .u32 u]).get ⟨σ.next, 0, 0⟩ = some [.int .u32 v, .int .u32 u] := by rw [get_new, if_pos rfl]
  have hl := look_map hm v u
  have hlp : lookP f L v u = .nilp := by unfold lookP; rw [hp]
  rw [hlp] at hl
  have h1 : ¬ (sz < 0) := by omega
  have h2 : ¬ (sz > 1048576) := by omega
  have hll : lenIn (σ.new [.int .u32 v, .int .u32 u]) .map (.map M) = some L.length := by simp [lenIn, hm, keysOf]
  have h3 : ¬ ((L.length : Int) ≥ 65536) := by omega
  have hfv : fillV [.int .u32 0, .int .u32 0, .int .i64 0, .int .i64 0, .int .i64 0] [(0, 2, [.int .u32 v, .int .u32 u]), (2, 1, [.int .i64 sz]), (3, 1, [.int .i64 us]), (4, 1, [.int .i64 (-1)])] = some (thc ⟨v, u, sz, us⟩ (-1)) := rfl
  have hz2 : newCells (σ.new [.int .u32 v, .int .u32 u]) (thc ⟨v, u, sz, us⟩ (-1)) = some (⟨σ.next + 1, 0, 0⟩, (σ.new [.int .u32 v, .int .u32 u]).new (thc ⟨v, u, sz, us⟩ (-1))) := newCells_ok rfl
  have hs2 : ((σ.new [.int .u32 v, .int .u32 u]).new (thc ⟨v, u, sz, us⟩ (-1))).get S = some [.int .i64 bud, .int .i64 (sumL f L), .map M, cc] := (new_get (by have := R.lS; show S.o < σ.next + 1; omega)).trans hs
  have hk2 : ((σ.new [.int .u32 v, .int .u32 u]).new (thc ⟨v, u, sz, us⟩ (-1))).get ⟨σ.next, 0, 0⟩ = some [.int .u32 v, .int .u32 u] := (new_get (by show σ.next < σ.next + 1; omega)).trans hk
  have hm2 : ((σ.new [.int .u32 v, .int .u32 u]).new (thc ⟨v, u, sz, us⟩ (-1))).heap M = some (.map (keysOf f L) (ptrs L)) := ((Frm.new (σ.new [.int .u32 v, .int .u32 u]) _ (fun _ => False)).heap M (by have := R.lM; show M.o < σ.next + 1; omega) (fun h => h)).trans hm
  have hu := upd_map hm2 hp (.ptr ⟨σ.next + 1, 0, 0⟩ 0)
  generalize hs3d : ((σ.new [.int .u32 v, .int .u32 u]).new (thc ⟨v, u, sz, us⟩ (-1))).set M (some (.map (keysOf f L ++ [kx v u]) (ptrs L ++ [.ptr ⟨σ.next + 1, 0, 0⟩ 0]))) = s3 at hu
  have hs3 : s3.get S = some [.int .i64 bud, .int .i64 (sumL f L), .map M, cc] := by
    rw [← hs3d]
    have : (((σ.new [.int .u32 v, .int .u32 u]).new (thc ⟨v, u, sz, us⟩ (-1))).set M (some (.map (keysOf f L ++ [kx v u]) (ptrs L ++ [.ptr ⟨σ.next + 1, 0, 0⟩ 0])))).get S = ((σ.new [.int .u32 v, .int .u32 u]).new (thc ⟨v, u, sz, us⟩ (-1))).get S := by simp [St.get, St.set, R.mS.symm]
    rw [this]; exact hs2
  have hsl := sum_le R.sz
  have hfew := R.few
  have t1 : storeAt s3 1 (.ptr S 1) (.int .i64 (sumL f L + sz)) = some (s3.set S (some (.cells [.int .i64 bud, .int .i64 (sumL f L + sz), .map M, cc]))) := by rw [store_one hs3 (by simp) (by simp) rfl]; rfl
  obtain ⟨R4, fr4, XL⟩ := R.add (us := us) hp h hL rfl (s4 := s3.set S (some (.cells [.int .i64 bud, .int .i64 (sumL f L + sz), .map M, cc]))) (by rw [← hs3d])
  generalize s3.set S (some (.cells [.int .i64 bud, .int .i64 (sumL f L + sz), .map M, cc])) = s4 at t1 R4 fr4
  have hs4 := R4.hs
  have common : ∀ q, Fp S M (L ++ [⟨σ.next + 1, 0, 0⟩]) cc q → Fp S M L cc q ∨ σ.next ≤ q.o := by
    rintro q (hq | hq | hq | hq)
    · exact .inl (.inl hq)
    · exact .inl (.inr (.inl hq))
    · rcases List.mem_append.1 hq with hq | hq
      · exact .inl (.inr (.inr (.inl hq)))
      · simp at hq; subst hq; exact .inr (by show σ.next ≤ σ.next + 1; omega)
    · exact .inl (.inr (.inr (.inr hq)))
  cases c with
  | false =>
    refine ⟨s4, ⟨σ.next + 1, 0, 0⟩, cc, ?_, by simpa using R4, fr4, XL, by show σ.next ≤ σ.next + 1; omega, common⟩
    rw [ev_raw (tab42 hsS)]
    simp (disch := first | omega | (simp only [rkl]; omega)) only [rk1, rk2, rk3, rk4, rk5, Arg.get, ret1, AV.cells, AV.isCell, addOff, minmaxL, Cap.room, Cap.cut, cutI, isSt, resultOf, Function.comp_apply, Function.comp_def, beq_self_eq_true, if_true, if_false, ite_true, ite_false, reduceCtorEq, bne_self_eq_false, Option.some.injEq, Prod.mk.injEq, ↓reduceIte, Nat.reduceEqDiff, Nat.reduceAdd, Nat.reduceMul, Nat.reduceSub, Nat.reduceLeDiff, Nat.reduceLT, Int.reduceLT, Int.reduceLE, Int.reduceEq, Int.reduceAdd, Int.reduceSub, Int.reduceNeg, Int.reduceToNat, List.mapM_cons, List.mapM_nil, Option.pure_def, Option.bind_eq_bind, eq_self, decide_true, decide_false, code42, p42_1, p42_2, p42_4, hz, h1, h2]
    rw [drawn (seq_d42_6 _)]
    simp (disch := first | omega | (simp only [rkl]; omega)) only [rk1, rk2, rk3, rk4, rk5, Arg.get, ret1, AV.cells, AV.isCell, addOff, minmaxL, Cap.room, Cap.cut, cutI, isSt, resultOf, Function.comp_apply, Function.comp_def, beq_self_eq_true, if_true, if_false, ite_true, ite_false, reduceCtorEq, bne_self_eq_false, Option.some.injEq, Prod.mk.injEq, ↓reduceIte, Nat.reduceEqDiff, Nat.reduceAdd, Nat.reduceMul, Nat.reduceSub, Nat.reduceLeDiff, Nat.reduceLT, Int.reduceLT, Int.reduceLE, Int.reduceEq, Int.reduceAdd, Int.reduceSub, Int.reduceNeg, Int.reduceToNat, List.mapM_cons, List.mapM_nil, Option.pure_def, Option.bind_eq_bind, eq_self, decide_true, decide_false, d42_6, hs, hk, ev_lookup, hl, p42_8, hll, h3, p42_10, hfv, hz2]
    rw [drawn (seq_d42_11 _)]
    simp (disch := first | omega | (simp only [rkl]; omega)) only [rk1, rk2, rk3, rk4, rk5, Arg.get, ret1, AV.cells, AV.isCell, addOff, minmaxL, Cap.room, Cap.cut, cutI, isSt, resultOf, Function.comp_apply, Function.comp_def, beq_self_eq_true, if_true, if_false, ite_true, ite_false, reduceCtorEq, bne_self_eq_false, Option.some.injEq, Prod.mk.injEq, ↓reduceIte, Nat.reduceEqDiff, Nat.reduceAdd, Nat.reduceMul, Nat.reduceSub, Nat.reduceLeDiff, Nat.reduceLT, Int.reduceLT, Int.reduceLE, Int.reduceEq, Int.reduceAdd, Int.reduceSub, Int.reduceNeg, Int.reduceToNat, List.mapM_cons, List.mapM_nil, Option.pure_def, Option.bind_eq_bind, eq_self, decide_true, decide_false, d42_11, hs2, hk2, ev_mapUpd, hu, p42_12, hs3, t1, p42_13, p42_15]
  | true =>
    have XH : (⟨σ.next + 1, 0, 0⟩ : Vm.Id) ∉ H := fun e => XL (R.sub _ e)
    obtain ⟨s5, cc', e5, R5, fr5, hw⟩ := R4.push (x := ⟨σ.next + 1, 0, 0⟩) (by simp) XH
    refine ⟨s5, ⟨σ.next + 1, 0, 0⟩, cc', ?_, by simpa using R5, fr4.trans fr5 fun q hq hF => ?_, XL, by show σ.next ≤ σ.next + 1; omega, fun q hq => ?_⟩
    · rw [ev_raw (tab42 hsS)]
      simp (disch := first | omega | (simp only [rkl]; omega)) only [rk1, rk2, rk3, rk4, rk5, Arg.get, ret1, AV.cells, AV.isCell, addOff, minmaxL, Cap.room, Cap.cut, cutI, isSt, resultOf, Function.comp_apply, Function.comp_def, beq_self_eq_true, if_true, if_false, ite_true, ite_false, reduceCtorEq, bne_self_eq_false, Option.some.injEq, Prod.mk.injEq, ↓reduceIte, Nat.reduceEqDiff, Nat.reduceAdd, Nat.reduceMul, Nat.reduceSub, Nat.reduceLeDiff, Nat.reduceLT, Int.reduceLT, Int.reduceLE, Int.reduceEq, Int.reduceAdd, Int.reduceSub, Int.reduceNeg, Int.reduceToNat, List.mapM_cons, List.mapM_nil, Option.pure_def, Option.bind_eq_bind, eq_self, decide_true, decide_false, code42, p42_1, p42_2, p42_4, hz, h1, h2]
      rw [drawn (seq_d42_6 _)]
      simp (disch := first | omega | (simp only [rkl]; omega)) only [rk1, rk2, rk3, rk4, rk5, Arg.get, ret1, AV.cells, AV.isCell, addOff, minmaxL, Cap.room, Cap.cut, cutI, isSt, resultOf, Function.comp_apply, Function.comp_def, beq_self_eq_true, if_true, if_false, ite_true, ite_false, reduceCtorEq, bne_self_eq_false, Option.some.injEq, Prod.mk.injEq, ↓reduceIte, Nat.reduceEqDiff, Nat.reduceAdd, Nat.reduceMul, Nat.reduceSub, Nat.reduceLeDiff, Nat.reduceLT, Int.reduceLT, Int.reduceLE, Int.reduceEq, Int.reduceAdd, Int.reduceSub, Int.reduceNeg, Int.reduceToNat, List.mapM_cons, List.mapM_nil, Option.pure_def, Option.bind_eq_bind, eq_self, decide_true, decide_false, d42_6, hs, hk, ev_lookup, hl, p42_8, hll, h3, p42_10, hfv, hz2]
      rw [drawn (seq_d42_11 _)]
      simp (disch := first | omega | (simp only [rkl]; omega)) only [rk1, rk2, rk3, rk4, rk5, Arg.get, ret1, AV.cells, AV.isCell, addOff, minmaxL, Cap.room, Cap.cut, cutI, isSt, resultOf, Function.comp_apply, Function.comp_def, beq_self_eq_true, if_true, if_false, ite_true, ite_false, reduceCtorEq, bne_self_eq_false, Option.some.injEq, Prod.mk.injEq, ↓reduceIte, Nat.reduceEqDiff, Nat.reduceAdd, Nat.reduceMul, Nat.reduceSub, Nat.reduceLeDiff, Nat.reduceLT, Int.reduceLT, Int.reduceLE, Int.reduceEq, Int.reduceAdd, Int.reduceSub, Int.reduceNeg, Int.reduceToNat, List.mapM_cons, List.mapM_nil, Option.pure_def, Option.bind_eq_bind, eq_self, decide_true, decide_false, d42_11, hs2, hk2, ev_mapUpd, hu, p42_12, hs3, t1, p42_13, p42_14, hs4, e5, p42_15]
    · rcases common q hF with h | h
      · exact h
      · omega
    · rcases hw q hq with h | h
      · exact common q h
      · have := fr4.next; exact .inr (by omega)
end
/-
  THE SHELF: New, Clean, Touch.
-/

def St.newMap (σ : St) : St := (σ.alloc (.map [] [])).2
theorem ev_makeMap (E : CallH) (ρ : Env) (σ : St) : Ins.ev E ρ σ .makeMap = some (.map ⟨σ.next, 0, 0⟩, St.newMap σ) := rfl

theorem new_shelf_bad (σ : St) {bud : Int} (h : ¬ (0 ≤ bud ∧ bud ≤ 1073741824)) : ev (tab hsS) 40 [.int .i64 bud] σ = some (.tup [.nilp, .int .i64 1], σ) := by
  rw [ev_raw (tab40 hsS)]
  by_cases h1 : bud < 0
  · simp (disch := first | omega | (simp only [rkl]; omega)) only [rk1, rk2, rk3, rk4, rk5, Arg.get, ret1, AV.cells, AV.isCell, addOff, minmaxL, Cap.room, Cap.cut, cutI, isSt, resultOf, Function.comp_apply, Function.comp_def, beq_self_eq_true, if_true, if_false, ite_true, ite_false, reduceCtorEq, bne_self_eq_false, Option.some.injEq, Prod.mk.injEq, ↓reduceIte, Nat.reduceEqDiff, Nat.reduceAdd, Nat.reduceMul, Nat.reduceSub, Nat.reduceLeDiff, Nat.reduceLT, Int.reduceLT, Int.reduceLE, Int.reduceEq, Int.reduceAdd, Int.reduceSub, Int.reduceNeg, Int.reduceToNat, List.mapM_cons, List.mapM_nil, Option.pure_def, Option.bind_eq_bind, eq_self, decide_true, decide_false, code40, p40_1, p40_2, p40_3, h1]
  · have h2 : bud > 1073741824 := by omega
    simp (disch := first | omega | (simp only [rkl]; omega)) only [rk1, rk2, rk3, rk4, rk5, Arg.get, ret1, AV.cells, AV.isCell, addOff, minmaxL, Cap.room, Cap.cut, cutI, isSt, resultOf, Function.comp_apply, Function.comp_def, beq_self_eq_true, if_true, if_false, ite_true, ite_false, reduceCtorEq, bne_self_eq_false, Option.some.injEq, Prod.mk.injEq, ↓reduceIte, Nat.reduceEqDiff, Nat.reduceAdd, Nat.reduceMul, Nat.reduceSub, Nat.reduceLeDiff, Nat.reduceLT, Int.reduceLT, Int.reduceLE, Int.reduceEq, Int.reduceAdd, Int.reduceSub, Int.reduceNeg, Int.reduceToNat, List.mapM_cons, List.mapM_nil, Option.pure_def, Option.bind_eq_bind, eq_self, decide_true, decide_false, code40, p40_1, p40_2, p40_3, h1, h2]

theorem new_shelf (σ : St) (f : Vm.Id → Ky) {bud : Int} (h : 0 ≤ bud ∧ bud ≤ 1073741824) : ∃ σ', ev (tab hsS) 40 [.int .i64 bud] σ = some (.tup [.ptr ⟨σ.next + 1, 0, 0⟩ 0, .int .i64 0], σ') ∧
    Rep σ' ⟨σ.next + 1, 0, 0⟩ ⟨σ.next, 0, 0⟩ bud [] [] f .nilsl ∧ Frm σ σ' (fun _ => False) := by
  have h1 : ¬ (bud < 0) := by omega
  have h2 : ¬ (bud > 1073741824) := by omega
  have hfv : fillV [.int .i64 0, .int .i64 0, .nilm, .nilsl] [(0, 1, [.int .i64 bud]), (2, 1, [.map ⟨σ.next, 0, 0⟩])] = some [.int .i64 bud, .int .i64 0, .map ⟨σ.next, 0, 0⟩, .nilsl] := rfl
  have nn : (St.newMap σ).next = σ.next + 1 := rfl
  have hz : newCells (St.newMap σ) [.int .i64 bud, .int .i64 0, .map ⟨σ.next, 0, 0⟩, .nilsl] = some (⟨σ.next + 1, 0, 0⟩, (St.newMap σ).new [.int .i64 bud, .int .i64 0, .map ⟨σ.next, 0, 0⟩, .nilsl]) := newCells_ok rfl
  have hm : ((St.newMap σ).new [.int .i64 bud, .int .i64 0, .map ⟨σ.next, 0, 0⟩, .nilsl]).heap ⟨σ.next, 0, 0⟩ = some (.map [] []) := by
    simp [St.new, nn]; simp [St.newMap, St.alloc, St.set]
  have n2 : ((St.newMap σ).new [.int .i64 bud, .int .i64 0, .map ⟨σ.next, 0, 0⟩, .nilsl]).next = σ.next + 2 := rfl
  refine ⟨(St.newMap σ).new [.int .i64 bud, .int .i64 0, .map ⟨σ.next, 0, 0⟩, .nilsl], ?_, ⟨.nil ?_, by simpa [keysOf, ptrs] using hm, by simp, by simp, by simp, by simp, by rw [n2]; show σ.next + 1 < _; omega, by rw [n2]; show σ.next < _; omega, by simp, by simp, by simp, by simp, by simp [refId], by simp, by simp, by simp⟩, ⟨by rw [n2]; omega, rfl, fun q hq _ => ?_⟩⟩
  · rw [ev_raw (tab40 hsS)]
    simp (disch := first | omega | (simp only [rkl]; omega)) only [rk1, rk2, rk3, rk4, rk5, Arg.get, ret1, AV.cells, AV.isCell, addOff, minmaxL, Cap.room, Cap.cut, cutI, isSt, resultOf, Function.comp_apply, Function.comp_def, beq_self_eq_true, if_true, if_false, ite_true, ite_false, reduceCtorEq, bne_self_eq_false, Option.some.injEq, Prod.mk.injEq, ↓reduceIte, Nat.reduceEqDiff, Nat.reduceAdd, Nat.reduceMul, Nat.reduceSub, Nat.reduceLeDiff, Nat.reduceLT, Int.reduceLT, Int.reduceLE, Int.reduceEq, Int.reduceAdd, Int.reduceSub, Int.reduceNeg, Int.reduceToNat, List.mapM_cons, List.mapM_nil, Option.pure_def, Option.bind_eq_bind, eq_self, decide_true, decide_false, code40, p40_1, p40_2, p40_4, h1, h2, ev_makeMap, hfv, hz]
  · rw [get_new, if_pos (by rw [nn])]; simp [sumL]
  · have e1 : ¬ (q = ⟨σ.next, 0, 0⟩) := fun e => by subst e; simp at hq
    have e2 : ¬ (q = ⟨σ.next + 1, 0, 0⟩) := fun e => by subst e; simp at hq; omega
    simp [St.new, nn, e2]; simp [St.newMap, St.alloc, St.set, e1]

theorem lookP_some {f : Vm.Id → Ky} {L : List Vm.Id} {v u : Int} {j : Nat} (h : posOf (kf f) L v u = some j) : lookP f L v u = .ptr (at_ L j) 0 := by unfold lookP; rw [h]
theorem lookP_none {f : Vm.Id → Ky} {L : List Vm.Id} {v u : Int} (h : posOf (kf f) L v u = none) : lookP f L v u = .nilp := by unfold lookP; rw [h]
theorem pos_lt {f : Vm.Id → Ky} {L : List Vm.Id} {v u : Int} {j : Nat} (h : posOf (kf f) L v u = some j) : j < L.length := (posOf_some _ h).1

/-- A thing's data are other. -/
theorem Hc.other {σ : St} {S : Vm.Id} {b z m : AV} {f : Vm.Id → Ky} {H : List Vm.Id} {cc : AV} (h : Hc σ S b z m f H cc) {x : Vm.Id} {y : Ky} {a : Int} (xS : x ≠ S) (xB : refId cc ≠ some x) (ha : ∀ k, k < H.length → at_ H k = x → a = k) :
    Hc (σ.set x (some (.cells (thc y a)))) S b z m (upd f x y) H cc := by
  have hg : ∀ q, q ≠ x → (σ.set x (some (.cells (thc y a)))).get q = σ.get q := fun q hq => by rw [get_set, if_neg hq]
  cases h with
  | nil hs => exact .nil ((hg S xS.symm).trans hs)
  | sl Q h1 h2 hB =>
    have xB2 : x ≠ _ := fun e => xB (by simp [refId, e]; rfl)
    refine .sl ⟨(hg S xS.symm).trans Q.hs, (hg _ (fun e => xB (by simp [refId, e]))).trans Q.hb, fun k hk => ?_, Q.nd, Q.sb, Q.sh, Q.bh, Q.few⟩ h1 h2 hB
    by_cases e : at_ H k = x
    · rw [e, upd_same, get_set_same, ha k hk e]
    · rw [upd_other e, hg _ e]; exact Q.ht k hk

section
variable {σ : St} {S M : Vm.Id} {bud : Int} {L H : List Vm.Id} {f : Vm.Id → Ky} {cc : AV} (R : Rep σ S M bud L H f cc)
include R

theorem Rep.other {x : Vm.Id} (hx : x ∈ L) {y : Ky} {a : Int} (hv : y.v = (f x).v) (hu : y.u = (f x).u) (hs : y.sz = (f x).sz) (ha : (∃ k, k < H.length ∧ at_ H k = x ∧ a = k) ∨ (x ∉ H ∧ a = -1)) :
    Rep (σ.set x (some (.cells (thc y a)))) S M bud L H (upd f x y) cc := by
  have xS : x ≠ S := fun e => R.sL (e ▸ hx)
  have xM : M ≠ x := fun e => R.mL (e ▸ hx)
  have hkf : ∀ z, kf (upd f x y) z = kf f z := fun z => by
    by_cases e : z = x
    · subst e; simp [kf, upd_same, hv, hu]
    · simp [kf, upd_other e]
  have hsz : ∀ z, (upd f x y z).sz = (f z).sz := fun z => by
    by_cases e : z = x
    · subst e; rw [upd_same, hs]
    · rw [upd_other e]
  have hsum : sumL (upd f x y) L = sumL f L := by simp [sumL, hsz]
  have hkeys : keysOf (upd f x y) L = keysOf f L := by simp [keysOf, hkf]
  have ha' : ∀ k, k < H.length → at_ H k = x → a = k := fun k hk e => by
    rcases ha with ⟨i, hi, e2, rfl⟩ | ⟨h1, _⟩
    · rw [at_inj R.hc.nd hi hk (e2.trans e.symm)]
    · exact absurd (e ▸ at_mem hk) h1
  refine ⟨by rw [hsum]; exact R.hc.other xS (R.bL x hx) ha', by rw [hkeys]; simpa [St.set, xM] using R.hm, R.sub, fun w hw hwH => ?_, R.nd, fun p hp w hw h1 h2 => ?_, R.lS, R.lM, R.lL, R.mS, R.mL, R.sL, R.mB, R.bL, R.few, fun w hw => by rw [hsz]; exact R.sz w hw⟩
  · by_cases e : w = x
    · subst e
      rcases ha with ⟨i, hi, e2, _⟩ | ⟨_, rfl⟩
      · exact absurd (e2 ▸ at_mem hi) hwH
      · rw [get_set_same, upd_same]
    · rw [get_set, if_neg e, upd_other e]; exact R.off w hw hwH
  · have e1 := hkf p
    have e2 := hkf w
    simp only [kf, Prod.mk.injEq] at e1 e2
    exact R.key p hp w hw (by rw [← e1.1, ← e2.1]; exact h1) (by rw [← e1.2, ← e2.2]; exact h2)

theorem Rep.fix {i : Nat} (hi : i < H.length) : ∃ σ', ev (tab hsS) 80 [.iface 131 (.ptr S 3), .int .i64 i] σ = some (.tup [], σ') ∧ Rep σ' S M bud L (fixL ltK f H i H.length) f cc ∧ Frm σ σ' (Fp S M L cc) := by
  obtain ⟨σ', e, h', o⟩ := fix80 R.hc hi
  have hp := fixL_perm (lt := ltK) (f := f) (Nat.le_refl H.length) hi
  have hmem : ∀ y, y ∈ fixL ltK f H i H.length ↔ y ∈ H := fun y => hp.mem_iff
  have hn := o.next
  refine ⟨σ', e, ⟨h', ?_, fun y hy => R.sub y ((hmem y).1 hy), fun y hy hyH => ?_, R.nd, R.key, by rw [hn]; exact R.lS, by rw [hn]; exact R.lM, fun y hy => by rw [hn]; exact R.lL y hy, R.mS, R.mL, R.sL, R.mB, R.bL, R.few, R.sz⟩, (o.weak fun q hq => ?_).frm⟩
  · rw [o.heap M ?_]; exact R.hm
    rintro (h | h)
    · exact R.mL (R.sub M h)
    · exact R.mB h
  · have n1 : y ∉ H := fun h => hyH ((hmem y).2 h)
    rw [o.get ?_]; exact R.off y hy n1
    rintro (h | h)
    · exact n1 h
    · exact R.bL y hy h
  · rcases hq with hq | hq
    · exact .inr (.inr (.inl (R.sub q hq)))
    · exact .inr (.inr (.inr hq))

/-- The state behind find. -/
theorem Rep.look2 (v u : Int) : Rep ((σ.new [.int .u32 v, .int .u32 u]).new [.int .u32 v, .int .u32 u]) S M bud L H f cc ∧ ev (tab hsS) 79 [.ptr S 0, .agg [.int .u32 v, .int .u32 u]] (σ.new [.int .u32 v, .int .u32 u]) = some (lookP f L v u, (σ.new [.int .u32 v, .int .u32 u]).new [.int .u32 v, .int .u32 u]) ∧
    Frm σ ((σ.new [.int .u32 v, .int .u32 u]).new [.int .u32 v, .int .u32 u]) (fun _ => False) := by
  have f1 := Frm.new σ [.int .u32 v, .int .u32 u] (fun _ => False)
  have f2 := Frm.new (σ.new [.int .u32 v, .int .u32 u]) [.int .u32 v, .int .u32 u] (fun _ => False)
  have R1 := R.frm f1 (fun _ _ h => h)
  exact ⟨R1.frm f2 (fun _ _ h => h), find_ev R1 v u, f1.trans f2 (fun _ _ h => h)⟩

theorem clean_none {v u : Int} (hp : posOf (kf f) L v u = none) : ∃ σ', ev (tab hsS) 50 [.ptr S 0, .agg [.int .u32 v, .int .u32 u]] σ = some (.bool false, σ') ∧ Frm σ σ' (fun _ => False) := by
  have hz : newCells σ [.int .u32 v, .int .u32 u] = some (⟨σ.next, 0, 0⟩, σ.new [.int .u32 v, .int .u32 u]) := newCells_ok rfl
  have hk : (σ.new [.int .u32 v, .int .u32 u]).get ⟨σ.next, 0, 0⟩ = some [.int .u32 v, .int .u32 u] := by rw [get_new, if_pos rfl]
  obtain ⟨R2, e2, f2⟩ := R.look2 v u
  rw [lookP_none hp] at e2
  refine ⟨_, ?_, f2⟩
  rw [ev_raw (tab50 hsS)]
  simp (disch := first | omega | (simp only [rkl]; omega)) only [rk1, rk2, rk3, rk4, rk5, Arg.get, ret1, AV.cells, AV.isCell, addOff, minmaxL, Cap.room, Cap.cut, cutI, isSt, resultOf, Function.comp_apply, Function.comp_def, beq_self_eq_true, if_true, if_false, ite_true, ite_false, reduceCtorEq, bne_self_eq_false, Option.some.injEq, Prod.mk.injEq, ↓reduceIte, Nat.reduceEqDiff, Nat.reduceAdd, Nat.reduceMul, Nat.reduceSub, Nat.reduceLeDiff, Nat.reduceLT, Int.reduceLT, Int.reduceLE, Int.reduceEq, Int.reduceAdd, Int.reduceSub, Int.reduceNeg, Int.reduceToNat, List.mapM_cons, List.mapM_nil, Option.pure_def, Option.bind_eq_bind, eq_self, decide_true, decide_false, code50, p50_1, p50_2, p50_3, p50_4, hz, hk, e2]

theorem clean_ok {v u : Int} {j : Nat} (hp : posOf (kf f) L v u = some j) : ∃ σ' cc', ev (tab hsS) 50 [.ptr S 0, .agg [.int .u32 v, .int .u32 u]] σ = some (.bool true, σ') ∧
    Rep σ' S M bud L (if at_ L j ∈ H then H else upL ltK f (H ++ [at_ L j]) H.length) f cc' ∧ Frm σ σ' (Fp S M L cc) ∧ (∀ q, Fp S M L cc' q → Fp S M L cc q ∨ σ.next ≤ q.o) := by
  have hz : newCells σ [.int .u32 v, .int .u32 u] = some (⟨σ.next, 0, 0⟩, σ.new [.int .u32 v, .int .u32 u]) := newCells_ok rfl
  have hk : (σ.new [.int .u32 v, .int .u32 u]).get ⟨σ.next, 0, 0⟩ = some [.int .u32 v, .int .u32 u] := by rw [get_new, if_pos rfl]
  obtain ⟨R2, e2, f2⟩ := R.look2 v u
  rw [lookP_some hp] at e2
  have hx : at_ L j ∈ L := at_mem (pos_lt hp)
  obtain ⟨a, hg, ha⟩ := R2.thing hx
  have hn := f2.next
  by_cases hH : at_ L j ∈ H
  · rcases ha with ⟨k, hk2, _, rfl⟩ | ⟨h, _⟩
    · refine ⟨_, cc, ?_, by rw [if_pos hH]; exact R2, f2.weak (fun _ h => h.elim), fun q hq => .inl hq⟩
      have h0 : ¬ ((k : Int) < 0) := by omega
      rw [ev_raw (tab50 hsS)]
      simp (disch := first | omega | (simp only [rkl]; omega)) only [rk1, rk2, rk3, rk4, rk5, Arg.get, ret1, AV.cells, AV.isCell, addOff, minmaxL, Cap.room, Cap.cut, cutI, isSt, resultOf, Function.comp_apply, Function.comp_def, beq_self_eq_true, if_true, if_false, ite_true, ite_false, reduceCtorEq, bne_self_eq_false, Option.some.injEq, Prod.mk.injEq, ↓reduceIte, Nat.reduceEqDiff, Nat.reduceAdd, Nat.reduceMul, Nat.reduceSub, Nat.reduceLeDiff, Nat.reduceLT, Int.reduceLT, Int.reduceLE, Int.reduceEq, Int.reduceAdd, Int.reduceSub, Int.reduceNeg, Int.reduceToNat, List.mapM_cons, List.mapM_nil, Option.pure_def, Option.bind_eq_bind, eq_self, decide_true, decide_false, code50, p50_1, p50_2, p50_3, p50_5, p50_7, hz, hk, e2, hg, thc, h0]
    · exact absurd hH h
  · rcases ha with ⟨k, hk2, e, _⟩ | ⟨_, rfl⟩
    · exact absurd (e ▸ at_mem hk2) hH
    · obtain ⟨σ', cc', e3, R3, f3, hw⟩ := R2.push hx hH
      refine ⟨σ', cc', ?_, by rw [if_neg hH]; exact R3, (f2.weak (fun _ h => h.elim)).trans f3 (fun q hq h => h), fun q hq => ?_⟩
      · rw [ev_raw (tab50 hsS)]
        simp (disch := first | omega | (simp only [rkl]; omega)) only [rk1, rk2, rk3, rk4, rk5, Arg.get, ret1, AV.cells, AV.isCell, addOff, minmaxL, Cap.room, Cap.cut, cutI, isSt, resultOf, Function.comp_apply, Function.comp_def, beq_self_eq_true, if_true, if_false, ite_true, ite_false, reduceCtorEq, bne_self_eq_false, Option.some.injEq, Prod.mk.injEq, ↓reduceIte, Nat.reduceEqDiff, Nat.reduceAdd, Nat.reduceMul, Nat.reduceSub, Nat.reduceLeDiff, Nat.reduceLT, Int.reduceLT, Int.reduceLE, Int.reduceEq, Int.reduceAdd, Int.reduceSub, Int.reduceNeg, Int.reduceToNat, List.mapM_cons, List.mapM_nil, Option.pure_def, Option.bind_eq_bind, eq_self, decide_true, decide_false, code50, p50_1, p50_2, p50_3, p50_5, p50_6, p50_7, hz, hk, e2, hg, thc, e3]
      · rcases hw q hq with h | h
        · exact .inl h
        · exact .inr (by omega)
end
end Go.Proofs.Ytkhalpmmdlppkaa
