/-
  THE SHELF: who goes is settled by what is there, in whatever order it stands.
-/
import Derived.Test.YtkhalpmmdlppkaaShO
namespace Go.Proofs.Ytkhalpmmdlppkaa
set_option linter.unusedSimpArgs false
set_option linter.unusedVariables false
open Go.Vm

theorem perm_sum {a b : List Int} (h : a.Perm b) : a.sum = b.sum := by
  induction h with
  | nil => rfl
  | cons x _ ih => simp [ih]
  | swap x y l => simp only [List.sum_cons]; omega
  | trans _ _ h1 h2 => exact h1.trans h2
theorem perm_erase {α : Type} : ∀ {L : List α} {j : Nat} (hj : j < L.length), L.Perm (L[j] :: L.eraseIdx j)
  | x :: L, 0, _ => List.Perm.refl _
  | x :: L, j + 1, hj => by
    have := perm_erase (L := L) (j := j) (by simpa using hj)
    exact (this.cons x).trans (List.Perm.swap _ _ _)

def sumR (l : List Rw) : Int := (l.map fun r => r.k.sz).sum
theorem sumR_perm {a b : List Rw} (h : a.Perm b) : sumR a = sumR b := by
  unfold sumR
  exact perm_sum (h.map _)

/-- Of what is there these go, in this order. -/
inductive Goes (bud : Int) : List Rw → List Rw → Prop
  | stop {l : List Rw} (h : ¬ (bud < sumR l ∧ ∃ r ∈ l, r.c = true)) : Goes bud l []
  | step {l l' g : List Rw} {m : Rw} (hb : bud < sumR l) (hm : m.c = true) (hp : l.Perm (m :: l')) (hmin : ∀ y ∈ l, y.c = true → ltK y.k m.k = false) (t : Goes bud l' g) : Goes bud l (m :: g)

def Kd (l : List Rw) : Prop := ∀ x ∈ l, ∀ y ∈ l, x.k.v = y.k.v → x.k.u = y.k.u → x = y

theorem lt_tie {a b : Ky} (h1 : ltK a b = false) (h2 : ltK b a = false) : a.v = b.v ∧ a.u = b.u := by
  have n : ∀ x y, ltK x y = false → ¬ (x.us < y.us ∨ x.us = y.us ∧ (x.v < y.v ∨ x.v = y.v ∧ x.u < y.u)) := fun x y h e => by
    rw [← ltK_iff] at e; rw [h] at e; cases e
  have := n _ _ h1
  have := n _ _ h2
  omega

theorem Goes.det {bud : Int} {l g : List Rw} (h : Goes bud l g) : ∀ {l2 g2 : List Rw}, Goes bud l2 g2 → l.Perm l2 → Kd l → g = g2 := by
  induction h with
  | stop h =>
    intro l2 g2 h2 hp hk
    cases h2 with
    | stop _ => rfl
    | step hb hm hp2 _ _ => exact absurd ⟨by rw [sumR_perm hp]; exact hb, _, hp.mem_iff.2 (hp2.mem_iff.2 (by simp)), hm⟩ h
  | step hb hm hp1 hmin t ih =>
    rename_i l l' g m
    intro l2 g2 h2 hp hk
    cases h2 with
    | stop h => exact absurd ⟨by rw [← sumR_perm hp]; exact hb, _, hp.mem_iff.1 (hp1.mem_iff.2 (by simp)), hm⟩ h
    | step hb2 hm2 hp2 hmin2 t2 =>
      rename_i l2' g2' m2
      have hml : m ∈ l := hp1.mem_iff.2 (by simp)
      have hm2l : m2 ∈ l := hp.mem_iff.2 (hp2.mem_iff.2 (by simp))
      have e1 := hmin m2 hm2l hm2
      have e2 := hmin2 m (hp.mem_iff.1 hml) hm
      have tie := lt_tie e1 e2
      have e : m = m2 := hk m hml m2 hm2l tie.1.symm tie.2.symm
      subst e
      have hp' : l'.Perm l2' := ((hp1.symm.trans hp).trans hp2).cons_inv
      rw [ih t2 hp' fun x hx y hy => hk x (hp1.mem_iff.2 (by simp [hx])) y (hp1.mem_iff.2 (by simp [hy]))]

theorem sumR_rows (f : Vm.Id → Ky) (cl : Vm.Id → Bool) (L : List Vm.Id) : sumR (rowsOf f cl L) = sumL f L := by
  simp [sumR, rowsOf, sumL, Function.comp_def]

theorem ok_drop {H : List Vm.Id} {f : Vm.Id → Ky} (h : Ok ltK f H.length H) (x : Vm.Id) : Ok ltK f (dropH f H x).length (dropH f H x) := by
  unfold dropH
  cases hs : slotOf H x with
  | none => exact h
  | some k =>
    obtain ⟨h1, _⟩ := slot_some hs
    have hc := cut_ok ordK h h1
    have hl : (cutL ltK f H k).length = H.length := (cutL_perm h1).length_eq
    intro i i0 hi
    have hi' : i < H.length - 1 := by simpa [hl] using hi
    rw [at_drop (by rw [hl]; exact hi'), at_drop (by rw [hl]; omega)]
    exact hc i i0 hi'

theorem evS_goes (bud : Int) (f : Vm.Id → Ky) (cl : Vm.Id → Bool) : ∀ (n : Nat) (L H : List Vm.Id), L.length ≤ n → L.Nodup → H.Nodup → (∀ x ∈ H, x ∈ L) → (∀ x ∈ L, ∀ y ∈ L, (f x).v = (f y).v → (f x).u = (f y).u → x = y) →
    (∀ x ∈ L, x ∈ H ↔ cl x = true) → Ok ltK f H.length H → Goes bud (rowsOf f cl L) (rowsOf f cl (evS bud f n L H).1) := by
  intro n
  have stop : ∀ (L H : List Vm.Id), (∀ x ∈ H, x ∈ L) → (∀ x ∈ L, x ∈ H ↔ cl x = true) → ¬ (bud < sumL f L ∧ H ≠ []) → Goes bud (rowsOf f cl L) [] := fun L H sub hcl h => by
    refine .stop fun ⟨h1, r, hr, hc⟩ => h ⟨by rw [sumR_rows] at h1; exact h1, fun e => ?_⟩
    simp only [rowsOf, List.mem_map] at hr
    obtain ⟨x, hx, rfl⟩ := hr
    have := (hcl x hx).2 hc
    rw [e] at this; simp at this
  induction n with
  | zero =>
    intro L H hL ndL ndH sub key hcl ok
    have h0 : L = [] := List.length_eq_zero_iff.1 (by omega)
    have hH : H = [] := by
      cases H with
      | nil => rfl
      | cons y H => have := sub y (by simp); rw [h0] at this; simp at this
    exact stop L H sub hcl (fun h => h.2 hH)
  | succ n ih =>
    intro L H hL ndL ndH sub key hcl ok
    unfold evS
    by_cases hb : bud < sumL f L ∧ H ≠ []
    · rw [if_pos hb]
      have h0 : 0 < H.length := List.length_pos_iff.2 hb.2
      have hx := at_mem h0
      have hleast := top_least ordK ok
      generalize at_ H 0 = x at *
      cases hp : posOf (kf f) L (f x).v (f x).u with
      | none => exact absurd ⟨rfl, rfl⟩ (posOf_none (kf f) hp x (sub x hx))
      | some j =>
        obtain ⟨hj, h1, h2⟩ := posOf_some (kf f) hp
        have hjx : at_ L j = x := by rw [at_get hj]; exact key _ (List.getElem_mem hj) x (sub x hx) h1 h2
        have hm := fun y => mem_erase ndL hj y
        rw [hjx] at hm
        obtain ⟨dm, dn⟩ := drop_mem ndH f x
        have hll : (L.eraseIdx j).length ≤ n := by rw [List.length_eraseIdx_of_lt hj]; omega
        have G := ih (L.eraseIdx j) (dropH f H x) hll (ndL.sublist (List.eraseIdx_sublist _ _)) dn (fun y hy => (hm y).2 ⟨sub y ((dm y).1 hy).1, ((dm y).1 hy).2⟩) (fun a ha b hb => key a ((hm a).1 ha).1 b ((hm b).1 hb).1)
          (fun y hy => by rw [dm, hcl y ((hm y).1 hy).1]; exact ⟨fun h => h.1, fun h => ⟨h, ((hm y).1 hy).2⟩⟩) (ok_drop ok x)
        have hperm : (rowsOf f cl L).Perm (⟨f x, cl x⟩ :: rowsOf f cl (L.eraseIdx j)) := by
          have hpl : L.Perm (x :: L.eraseIdx j) := by
            rw [← hjx, at_get hj]
            exact perm_erase hj
          exact hpl.map _
        refine .step (by rw [sumR_rows]; exact hb.1) ((hcl x (sub x hx)).1 hx) hperm (fun y hy hc => ?_) G
        simp only [rowsOf, List.mem_map] at hy
        obtain ⟨z, hz, rfl⟩ := hy
        have hzH := (hcl z hz).2 hc
        obtain ⟨k, hk, e⟩ := List.getElem_of_mem hzH
        have := hleast k hk
        rw [at_get hk, e] at this
        exact this
    · rw [if_neg hb]
      exact stop L H sub hcl hb

theorem kd_rows {f : Vm.Id → Ky} {cl : Vm.Id → Bool} {L : List Vm.Id} (key : ∀ x ∈ L, ∀ y ∈ L, (f x).v = (f y).v → (f x).u = (f y).u → x = y) : Kd (rowsOf f cl L) := by
  intro a ha b hb h1 h2
  simp only [rowsOf, List.mem_map] at ha hb
  obtain ⟨x, hx, rfl⟩ := ha
  obtain ⟨y, hy, rfl⟩ := hb
  rw [key x hx y hy h1 h2]

/-- What is told of those that go. -/
def gcR (g : List Rw) : List AV := g.flatMap fun r => [.int .u32 r.k.v, .int .u32 r.k.u]
theorem gc_rows (f : Vm.Id → Ky) (cl : Vm.Id → Bool) (G : List Vm.Id) : gc f G = gcR (rowsOf f cl G) := by
  simp [gc, gcR, rowsOf, List.flatMap_map]

theorem went_sum {bud : Int} {f : Vm.Id → Ky} {L H G L' H' : List Vm.Id} (W : Went bud f L H G L' H') (ndL : L.Nodup) (ndL' : L'.Nodup) (sub : ∀ x ∈ H, x ∈ L) : sumL f L' + sumL f G = sumL f L := by
  have hp : (L' ++ G).Perm L := by
    rw [List.perm_ext_iff_of_nodup (List.nodup_append.2 ⟨ndL', W.nd, fun x hx y hy e => ((W.left x).1 hx).2 (e ▸ hy)⟩) ndL]
    intro x
    rw [List.mem_append, W.left]
    by_cases h : x ∈ G
    · exact ⟨fun _ => sub x (W.sub x h), fun hx => .inr h⟩
    · exact ⟨fun e => e.elim (fun e => e.1) (fun e => absurd e h), fun hx => .inl ⟨hx, h⟩⟩
  have := perm_sum (hp.map fun x => (f x).sz)
  simpa [sumL] using this
end Go.Proofs.Ytkhalpmmdlppkaa
