/-
  THE SHELF: what it holds; how a thing is found.
-/
import Derived.Test.YtkhalpmmdlppkaaShF
namespace Go.Proofs.Ytkhalpmmdlppkaa
set_option linter.unusedSimpArgs false
set_option linter.unusedVariables false
open Go.Vm

abbrev KT : EqT := .st [(0, (1, .int)), (1, (1, .int))]
def kx (v u : Int) : AV := .agg [.int .u32 v, .int .u32 u]
theorem eqv_kx (v u v' u' : Int) : eqv KT (kx v u) (kx v' u') = some (decide (v = v') && decide (u = u')) := by
  by_cases h1 : v = v' <;> by_cases h2 : u = u' <;> simp [eqv, eqvL, Vm.part, isSt, kx, h1, h2]

section
variable {α : Type} (key : α → Int × Int)
def hit (v u : Int) (x : α) : Bool := decide (v = (key x).1) && decide (u = (key x).2)
def posOf (L : List α) (v u : Int) : Option Nat := L.findIdx? (hit key v u)

theorem findKey_kx (v u : Int) : ∀ (L : List α) (i : Nat), findKey KT (kx v u) (L.map fun x => kx (key x).1 (key x).2) i = some ((L.findIdx? (hit key v u)).map (· + i))
  | [], i => by simp [findKey]
  | x :: L, i => by
    rw [List.map_cons, findKey, eqv_kx, List.findIdx?_cons]
    cases h : hit key v u x with
    | true => simp only [hit] at h; rw [h]; simp
    | false =>
      simp only [hit] at h; rw [h]
      simp only [findKey_kx v u L (i + 1)]
      cases L.findIdx? (hit key v u) with
      | none => simp
      | some j => simp; omega
theorem findIn_kx (L : List α) (v u : Int) : findIn KT (kx v u) (L.map fun x => kx (key x).1 (key x).2) = some (posOf key L v u) := by
  unfold findIn posOf
  rw [eqv_kx, if_pos (by simp), findKey_kx]
  cases L.findIdx? (hit key v u) <;> simp
theorem posOf_some {L : List α} {v u : Int} {j : Nat} (h : posOf key L v u = some j) : ∃ (hj : j < L.length), (key L[j]).1 = v ∧ (key L[j]).2 = u := by
  unfold posOf at h
  rw [List.findIdx?_eq_some_iff_getElem] at h
  obtain ⟨hj, h1, _⟩ := h
  simp only [hit, Bool.and_eq_true, decide_eq_true_eq] at h1
  exact ⟨hj, h1.1.symm, h1.2.symm⟩
theorem posOf_none {L : List α} {v u : Int} (h : posOf key L v u = none) : ∀ x ∈ L, ¬ ((key x).1 = v ∧ (key x).2 = u) := by
  unfold posOf at h
  rw [List.findIdx?_eq_none_iff] at h
  intro x hx e
  have := h x hx
  simp [hit, e.1, e.2] at this
end

def kf (f : Vm.Id → Ky) (x : Vm.Id) : Int × Int := ((f x).v, (f x).u)
def keysOf (f : Vm.Id → Ky) (L : List Vm.Id) : List AV := L.map fun x => kx (kf f x).1 (kf f x).2
def sumL (f : Vm.Id → Ky) (L : List Vm.Id) : Int := (L.map fun x => (f x).sz).sum

/-- What a shelf is, where it stands: the things that are there, and the clean ones among them as a heap. -/
structure Rep (σ : St) (S M : Vm.Id) (bud : Int) (L H : List Vm.Id) (f : Vm.Id → Ky) (cc : AV) : Prop where
  hc : Hc σ S (.int .i64 bud) (.int .i64 (sumL f L)) (.map M) f H cc
  hm : σ.heap M = some (.map (keysOf f L) (ptrs L))
  sub : ∀ x ∈ H, x ∈ L
  off : ∀ x ∈ L, x ∉ H → σ.get x = some (thc (f x) (-1))
  nd : L.Nodup
  key : ∀ x ∈ L, ∀ y ∈ L, (f x).v = (f y).v → (f x).u = (f y).u → x = y
  lS : S.o < σ.next
  lM : M.o < σ.next
  lL : ∀ x ∈ L, x.o < σ.next
  mS : M ≠ S
  mL : M ∉ L
  sL : S ∉ L
  mB : refId cc ≠ some M
  bL : ∀ x ∈ L, refId cc ≠ some x
  few : L.length ≤ 65536
  sz : ∀ x ∈ L, 0 ≤ (f x).sz ∧ (f x).sz ≤ 1048576

/-- The blocks that are a shelf's. -/
def Fp (S M : Vm.Id) (L : List Vm.Id) (cc : AV) (q : Vm.Id) : Prop := q = S ∨ q = M ∨ q ∈ L ∨ refId cc = some q

theorem Hc.frm {σ σ' : St} {S : Vm.Id} {b z m : AV} {f : Vm.Id → Ky} {H : List Vm.Id} {cc : AV} (h : Hc σ S b z m f H cc) (hh : ∀ q, (q = S ∨ q ∈ H ∨ refId cc = some q) → σ'.heap q = σ.heap q) (hn : σ.next ≤ σ'.next) : Hc σ' S b z m f H cc := by
  have hg : ∀ q, (q = S ∨ q ∈ H ∨ refId cc = some q) → σ'.get q = σ.get q := fun q hq => by simp only [St.get, hh q hq]
  cases h with
  | nil hs => exact .nil ((hg S (.inl rfl)).trans hs)
  | sl Q h1 h2 hB => exact .sl ⟨(hg S (.inl rfl)).trans Q.hs, (hg _ (.inr (.inr rfl))).trans Q.hb, fun k hk => (hg _ (.inr (.inl (at_mem hk)))).trans (Q.ht k hk), Q.nd, Q.sb, Q.sh, Q.bh, Q.few⟩ h1 h2 (by omega)

theorem Hc.cong {σ : St} {S : Vm.Id} {b z m : AV} {f g : Vm.Id → Ky} {H : List Vm.Id} {cc : AV} (h : Hc σ S b z m f H cc) (hg : ∀ x ∈ H, f x = g x) : Hc σ S b z m g H cc := by
  cases h with
  | nil hs => exact .nil hs
  | sl Q h1 h2 hB => exact .sl ⟨Q.hs, Q.hb, fun k hk => by rw [← hg _ (at_mem hk)]; exact Q.ht k hk, Q.nd, Q.sb, Q.sh, Q.bh, Q.few⟩ h1 h2 hB

theorem Hc.size {σ : St} {S : Vm.Id} {b z m z' : AV} {f : Vm.Id → Ky} {H : List Vm.Id} {cc : AV} (h : Hc σ S b z m f H cc) : Hc (σ.set S (some (.cells [b, z', m, cc]))) S b z' m f H cc := by
  have hg : ∀ q, q ≠ S → (σ.set S (some (.cells [b, z', m, cc]))).get q = σ.get q := fun q hq => by rw [get_set, if_neg hq]
  cases h with
  | nil hs => exact .nil (get_set_same _ _ _)
  | sl Q h1 h2 hB => exact .sl ⟨get_set_same _ _ _, (hg _ Q.sb.symm).trans Q.hb, fun k hk => (hg _ (fun e => Q.sh (e ▸ at_mem hk))).trans (Q.ht k hk), Q.nd, Q.sb, Q.sh, Q.bh, Q.few⟩ h1 h2 hB

theorem sum_le {f : Vm.Id → Ky} : ∀ {L : List Vm.Id}, (∀ x ∈ L, 0 ≤ (f x).sz ∧ (f x).sz ≤ 1048576) → 0 ≤ sumL f L ∧ sumL f L ≤ L.length * 1048576
  | [], _ => by simp [sumL]
  | x :: L, h => by
    have h1 := h x (by simp)
    have h2 := sum_le (L := L) fun y hy => h y (by simp [hy])
    simp only [sumL, List.map_cons, List.sum_cons, List.length_cons] at h2 ⊢
    omega

section
variable {σ : St} {S M : Vm.Id} {bud : Int} {L H : List Vm.Id} {f : Vm.Id → Ky} {cc : AV} (R : Rep σ S M bud L H f cc)
include R

theorem Rep.hs : σ.get S = some [.int .i64 bud, .int .i64 (sumL f L), .map M, cc] := R.hc.hs
theorem Rep.thing {x : Vm.Id} (hx : x ∈ L) : ∃ a : Int, σ.get x = some (thc (f x) a) ∧ ((∃ k, k < H.length ∧ at_ H k = x ∧ a = k) ∨ (x ∉ H ∧ a = -1)) := by
  by_cases h : x ∈ H
  · obtain ⟨k, hk, e⟩ := List.getElem_of_mem h
    have e : at_ H k = x := by rw [at_get hk]; exact e
    exact ⟨k, by rw [← e]; exact R.hc.ht k hk, .inl ⟨k, hk, e, rfl⟩⟩
  · exact ⟨-1, R.off x hx h, .inr ⟨h, rfl⟩⟩
theorem Rep.fewH : H.length < 2 ^ 40 := R.hc.few

/-- A shelf whose blocks are as they were. -/
theorem Rep.frm {σ' : St} {F : Vm.Id → Prop} (h : Frm σ σ' F) (hF : ∀ q, Fp S M L cc q → ¬ F q) : Rep σ' S M bud L H f cc := by
  have lb : ∀ q, Fp S M L cc q → q.o < σ.next := by
    rintro q (rfl | rfl | hq | hq)
    · exact R.lS
    · exact R.lM
    · exact R.lL q hq
    · exact R.hc.lb q hq
  have hh : ∀ q, Fp S M L cc q → σ'.heap q = σ.heap q := fun q hq => h.heap q (lb q hq) (hF q hq)
  have hn := h.next
  refine ⟨R.hc.frm (fun q hq => hh q ?_) hn, (hh M (.inr (.inl rfl))).trans R.hm, R.sub, fun x hx hxH => ?_, R.nd, R.key, by have := R.lS; omega, by have := R.lM; omega, fun x hx => by have := R.lL x hx; omega, R.mS, R.mL, R.sL, R.mB, R.bL, R.few, R.sz⟩
  · rcases hq with hq | hq | hq
    · exact .inl hq
    · exact .inr (.inr (.inl (R.sub q hq)))
    · exact .inr (.inr (.inr hq))
  · have := hh x (.inr (.inr (.inl hx)))
    simp only [St.get, this]
    exact R.off x hx hxH

theorem Rep.push {x : Vm.Id} (hx : x ∈ L) (xH : x ∉ H) : ∃ σ' cc', ev (tab hsS) 76 [.iface 131 (.ptr S 3), .iface 127 (.ptr x 0)] σ = some (.tup [], σ') ∧ Rep σ' S M bud L (upL ltK f (H ++ [x]) H.length) f cc' ∧ Frm σ σ' (Fp S M L cc) ∧
    (∀ q, Fp S M L cc' q → Fp S M L cc q ∨ σ.next ≤ q.o) := by
  have xS : x ≠ S := fun e => R.sL (e ▸ hx)
  have hb : H.length + 1 < 2 ^ 40 := by
    have h1 : H.length ≤ L.length := List.Nodup.length_le_of_subset R.hc.nd R.sub
    have := R.few; omega
  obtain ⟨σ', cc', e, h', fr, hw⟩ := push_ev R.hc (R.off x hx xH) xH xS (R.bL x hx) (R.lL x hx) R.lS (fun y hy => R.lL y (R.sub y hy)) hb
  have hp := upL_perm (lt := ltK) (f := f) H.length (H := H ++ [x]) (by simp)
  have hmem : ∀ y, y ∈ upL ltK f (H ++ [x]) H.length ↔ y ∈ H ∨ y = x := fun y => by rw [hp.mem_iff]; simp
  have hF : ∀ q, (q = S ∨ q = x ∨ q ∈ H ∨ refId cc = some q) → Fp S M L cc q := by
    rintro q (rfl | rfl | hq | hq)
    · exact .inl rfl
    · exact .inr (.inr (.inl hx))
    · exact .inr (.inr (.inl (R.sub q hq)))
    · exact .inr (.inr (.inr hq))
  have hn := fr.next
  refine ⟨σ', cc', e, ⟨h', ?_, fun y hy => ?_, fun y hy hyH => ?_, R.nd, R.key, by have := R.lS; omega, by have := R.lM; omega, fun y hy => by have := R.lL y hy; omega, R.mS, R.mL, R.sL, fun e => ?_, fun y hy e => ?_, R.few, R.sz⟩, fr.weak hF, fun q hq => ?_⟩
  · rw [fr.heap M R.lM ?_]; exact R.hm
    rintro (h | h | h | h)
    · exact R.mS h
    · exact R.mL (h ▸ hx)
    · exact R.mL (R.sub M h)
    · exact R.mB h
  · rcases (hmem y).1 hy with h | h
    · exact R.sub y h
    · exact h ▸ hx
  · have n1 : y ∉ H := fun h => hyH ((hmem y).2 (.inl h))
    have n2 : y ≠ x := fun h => hyH ((hmem y).2 (.inr h))
    rw [fr.get (R.lL y hy) ?_]; exact R.off y hy n1
    rintro (h | h | h | h)
    · exact R.sL (h ▸ hy)
    · exact n2 h
    · exact n1 h
    · exact R.bL y hy h
  · rcases hw M e with h | h
    · exact R.mB h
    · have := R.lM; omega
  · rcases hw y e with h | h
    · exact R.bL y hy h
    · have := R.lL y hy; omega
  · rcases hq with hq | hq | hq | hq
    · exact .inl (.inl hq)
    · exact .inl (.inr (.inl hq))
    · exact .inl (.inr (.inr (.inl hq)))
    · exact (hw q hq).imp (fun h => .inr (.inr (.inr h))) id
end
end Go.Proofs.Ytkhalpmmdlppkaa
