/-
  A heap, as a list: what sifting up and down, mending and taking away make of it. (No program in sight.)
-/
import Derived.Test.YtkhalpmmdlppkaaRows
namespace Go.Proofs.Ytkhalpmmdlppkaa
set_option linter.unusedSimpArgs false
set_option linter.unusedVariables false

section
variable {α : Type} [Inhabited α]

def at_ (H : List α) (k : Nat) : α := H.getD k default
theorem at_eq {H : List α} {k : Nat} (h : k < H.length) : H[k]? = some (at_ H k) := by simp [at_, List.getD, h]
theorem at_get {H : List α} {k : Nat} (h : k < H.length) : at_ H k = H[k] := by simp [at_, List.getD, h]

/-- Two change places. -/
def sw (H : List α) (i j : Nat) : List α := (H.set i (at_ H j)).set j (at_ H i)
def tr (i j k : Nat) : Nat := if k = j then i else if k = i then j else k

@[simp] theorem sw_len (H : List α) (i j : Nat) : (sw H i j).length = H.length := by simp [sw]
theorem at_sw {H : List α} {i j : Nat} (hi : i < H.length) (hj : j < H.length) (k : Nat) : at_ (sw H i j) k = at_ H (tr i j k) := by
  unfold sw tr at_
  simp only [List.getD_eq_getElem?_getD, List.getElem?_set]
  by_cases h1 : j = k
  · subst h1; simp [hj]
  · by_cases h2 : i = k
    · subst h2; simp [hi, h1, Ne.symm h1]
    · simp [h1, h2, Ne.symm h1, Ne.symm h2]

theorem sw_perm {H : List α} {i j : Nat} (hi : i < H.length) (hj : j < H.length) : (sw H i j).Perm H := by
  unfold sw
  rw [at_get hi, at_get hj]
  by_cases h : i = j
  · subst h; simp
  · exact List.set_set_perm hi hj

variable {κ : Type} (lt : κ → κ → Bool) (f : α → κ)

/-- Sift up. -/
def upL (H : List α) (j : Nat) : List α :=
  if 0 < j ∧ lt (f (at_ H j)) (f (at_ H ((j - 1) / 2))) = true then upL (sw H ((j - 1) / 2) j) ((j - 1) / 2) else H
termination_by j
decreasing_by omega

def kid (H : List α) (i n : Nat) : Nat := if 2 * i + 2 < n ∧ lt (f (at_ H (2 * i + 2))) (f (at_ H (2 * i + 1))) = true then 2 * i + 2 else 2 * i + 1
theorem kid_lt (H : List α) {i n : Nat} (h : 2 * i + 1 < n) : kid lt f H i n < n := by unfold kid; split <;> omega
theorem kid_gt (H : List α) (i n : Nat) : i < kid lt f H i n := by unfold kid; split <;> omega
theorem kid_up (H : List α) (i n : Nat) : (kid lt f H i n - 1) / 2 = i := by unfold kid; split <;> omega

/-- Sift down, among the first n. -/
def downL (H : List α) (i n : Nat) : List α × Nat :=
  if 2 * i + 1 < n ∧ lt (f (at_ H (kid lt f H i n))) (f (at_ H i)) = true then downL (sw H i (kid lt f H i n)) (kid lt f H i n) n else (H, i)
termination_by n - i
decreasing_by
  have := kid_gt lt f H i n
  omega

variable {lt f}
theorem upL_perm : ∀ (j : Nat) {H : List α}, j < H.length → (upL lt f H j).Perm H := by
  intro j
  induction j using Nat.strongRecOn with
  | _ j ih =>
    intro H hj
    rw [upL]
    split
    · rename_i h
      exact (ih _ (by omega) (by simp; omega)).trans (sw_perm (by omega) hj)
    · exact List.Perm.refl _

theorem downL_ge : ∀ (m : Nat) {H : List α} {i n : Nat}, n - i = m → i ≤ (downL lt f H i n).2 := by
  intro m
  induction m using Nat.strongRecOn with
  | _ m ih =>
    intro H i n hm
    rw [downL]
    split
    · rename_i h
      have h1 := kid_gt lt f H i n
      have h2 := kid_lt lt f H h.1
      have := ih (n - kid lt f H i n) (by omega) (H := sw H i (kid lt f H i n)) rfl
      omega
    · exact Nat.le_refl _

theorem downL_perm : ∀ (m : Nat) {H : List α} {i n : Nat}, n - i = m → n ≤ H.length → i < H.length → (downL lt f H i n).1.Perm H := by
  intro m
  induction m using Nat.strongRecOn with
  | _ m ih =>
    intro H i n hm hn hi
    rw [downL]
    split
    · rename_i h
      have h1 := kid_gt lt f H i n
      have h2 := kid_lt lt f H h.1
      exact (ih (n - kid lt f H i n) (by omega) rfl (by simpa using hn) (by simp; omega)).trans (sw_perm hi (by omega))
    · exact List.Perm.refl _

/-- The last one stays where it is. -/
theorem upL_last : ∀ (j : Nat) {H : List α} {k : Nat}, j < H.length → j < k → at_ (upL lt f H j) k = at_ H k := by
  intro j
  induction j using Nat.strongRecOn with
  | _ j ih =>
    intro H k hj hk
    rw [upL]
    split
    · rename_i h
      rw [ih _ (by omega) (by simp; omega) (by omega), at_sw (by omega) hj]
      unfold tr; rw [if_neg (by omega), if_neg (by omega)]
    · rfl
theorem downL_last : ∀ (m : Nat) {H : List α} {i n k : Nat}, n - i = m → n ≤ H.length → i < H.length → i < n → n ≤ k → at_ (downL lt f H i n).1 k = at_ H k := by
  intro m
  induction m using Nat.strongRecOn with
  | _ m ih =>
    intro H i n k hm hn hi hin hk
    rw [downL]
    split
    · rename_i h
      have h1 := kid_gt lt f H i n
      have h2 := kid_lt lt f H h.1
      rw [ih (n - kid lt f H i n) (by omega) rfl (by simpa using hn) (by simp; omega) h2 hk, at_sw hi (by omega)]
      unfold tr; rw [if_neg (by omega), if_neg (by omega)]
    · rfl

/-- Each one is not ahead of the one above it. -/
def Ok (lt : κ → κ → Bool) (f : α → κ) (n : Nat) (H : List α) : Prop := ∀ k, 0 < k → k < n → lt (f (at_ H k)) (f (at_ H ((k - 1) / 2))) = false

structure Ord (lt : κ → κ → Bool) : Prop where
  asym : ∀ a b, lt a b = true → lt b a = false
  trans : ∀ a b c, lt b a = false → lt c b = false → lt c a = false

variable (O : Ord lt)
include O

theorem up_ok : ∀ (j : Nat) {H : List α} {n : Nat}, n ≤ H.length → j < n → (∀ k, 0 < k → k < n → k ≠ j → lt (f (at_ H k)) (f (at_ H ((k - 1) / 2))) = false) →
    (∀ k, 0 < k → k < n → (k - 1) / 2 = j → 0 < j → lt (f (at_ H k)) (f (at_ H ((j - 1) / 2))) = false) → Ok lt f n (upL lt f H j) := by
  intro j
  induction j using Nat.strongRecOn with
  | _ j ih =>
    intro H n hn hj h1 h2
    rw [upL]
    split
    · rename_i h
      obtain ⟨hj0, hlt⟩ := h
      have hp : (j - 1) / 2 < j := by omega
      generalize hpp : (j - 1) / 2 = p at *
      have hs := fun k => at_sw (H := H) (i := p) (j := j) (by omega) (by omega) k
      have has := O.asym _ _ hlt
      refine ih p hp (by simpa using hn) (by omega) (fun k k0 kn kp => ?_) (fun k k0 kn kk p0 => ?_)
      · rw [hs, hs]
        by_cases e1 : k = j
        · subst e1
          rw [hpp]
          simp only [tr, if_true]
          rw [if_neg (by omega)]
          exact has
        · by_cases e2 : (k - 1) / 2 = j
          · rw [e2]
            simp only [tr, e1, kp, if_true, if_false]
            exact h2 k k0 kn e2 hj0
          · by_cases e3 : (k - 1) / 2 = p
            · rw [e3]
              simp only [tr, e1, kp, if_true, if_false]
              rw [if_neg (by omega)]
              have := h1 k k0 kn e1
              rw [e3] at this
              exact O.trans _ _ _ has this
            · simp only [tr, e1, kp, e2, e3, if_false]
              exact h1 k k0 kn e1
      · rw [hs, hs]
        have hpj : (p - 1) / 2 ≠ j := by omega
        have hpp2 : (p - 1) / 2 ≠ p := by omega
        have okp := h1 p p0 (by omega) (by omega)
        by_cases e1 : k = j
        · subst e1
          simp only [tr, hpj, hpp2, if_true, if_false]
          exact okp
        · have hkp : k ≠ p := by omega
          simp only [tr, hpj, hpp2, e1, hkp, if_false]
          have := h1 k k0 kn e1
          rw [kk] at this
          exact O.trans _ _ _ okp this
    · rename_i h
      intro k k0 kn
      by_cases e : k = j
      · subst e
        cases hb : lt (f (at_ H k)) (f (at_ H ((k - 1) / 2))) with
        | false => rfl
        | true => exact absurd ⟨k0, hb⟩ h
      · exact h1 k k0 kn e

theorem kid_least {H : List α} {i n : Nat} {k : Nat} (k0 : 0 < k) (kn : k < n) (hk : (k - 1) / 2 = i) : lt (f (at_ H k)) (f (at_ H (kid lt f H i n))) = false := by
  have hself : ∀ a, lt a a = false := fun a => by
    cases h : lt a a with
    | false => rfl
    | true => exact (O.asym _ _ h).symm.trans h |>.symm ▸ rfl
  have : k = 2 * i + 1 ∨ k = 2 * i + 2 := by omega
  unfold kid
  split
  · rename_i h
    rcases this with rfl | rfl
    · exact O.asym _ _ h.2
    · exact hself _
  · rename_i h
    rcases this with rfl | rfl
    · exact hself _
    · cases hb : lt (f (at_ H (2 * i + 2))) (f (at_ H (2 * i + 1))) with
      | false => rfl
      | true => exact absurd ⟨kn, hb⟩ h

theorem down_ok : ∀ (m : Nat) {H : List α} {i n : Nat}, n - i = m → n ≤ H.length → i < n → (∀ k, 0 < k → k < n → (k - 1) / 2 ≠ i → lt (f (at_ H k)) (f (at_ H ((k - 1) / 2))) = false) →
    (∀ k, 0 < k → k < n → (k - 1) / 2 = i → 0 < i → lt (f (at_ H k)) (f (at_ H ((i - 1) / 2))) = false) → Ok lt f n (downL lt f H i n).1 := by
  intro m
  induction m using Nat.strongRecOn with
  | _ m ih =>
    intro H i n hm hn hi h1 h2
    rw [downL]
    have hle := fun k k0 kn hk => kid_least (f := f) O (H := H) (i := i) (n := n) (k := k) k0 kn hk
    have hku := kid_up lt f H i n
    have hkg := kid_gt lt f H i n
    split
    · rename_i h
      obtain ⟨hin, hlt⟩ := h
      have hkl := kid_lt lt f H hin
      generalize kid lt f H i n = c at *
      have hs := fun k => at_sw (H := H) (i := i) (j := c) (by omega) (by omega) k
      have has := O.asym _ _ hlt
      refine ih (n - c) (by omega) rfl (by simpa using hn) hkl (fun k k0 kn kp => ?_) (fun k k0 kn kk c0 => ?_)
      · rw [hs, hs]
        by_cases e1 : k = c
        · subst e1
          rw [hku]
          simp only [tr, if_true]
          rw [if_neg (by omega)]
          exact has
        · by_cases e2 : k = i
          · subst e2
            have e3 : (k - 1) / 2 ≠ c := by omega
            have e4 : (k - 1) / 2 ≠ k := by omega
            simp only [tr, e1, e3, e4, if_true, if_false]
            exact h2 c (by omega) hkl hku k0
          · by_cases e3 : (k - 1) / 2 = i
            · rw [e3]
              simp only [tr, e1, e2, if_true, if_false]
              rw [if_neg (by omega)]
              exact hle k k0 kn e3
            · simp only [tr, e1, e2, e3, kp, if_false]
              exact h1 k k0 kn e3
      · rw [hs, hs, hku]
        have e1 : k ≠ c := by omega
        have e2 : k ≠ i := by omega
        simp only [tr, e1, e2, if_true, if_false]
        rw [if_neg (by omega)]
        have := h1 k k0 kn (by omega)
        rw [kk] at this
        exact this
    · rename_i h
      intro k k0 kn
      by_cases e : (k - 1) / 2 = i
      · have hin : 2 * i + 1 < n := by omega
        rw [e]
        have hb : lt (f (at_ H (kid lt f H i n))) (f (at_ H i)) = false := by
          cases hb : lt (f (at_ H (kid lt f H i n))) (f (at_ H i)) with
          | false => rfl
          | true => exact absurd ⟨hin, hb⟩ h
        exact O.trans _ _ _ hb (hle k k0 kn e)
      · exact h1 k k0 kn e

/-- What the program calls Fix. -/
def fixL (lt : κ → κ → Bool) (f : α → κ) (H : List α) (i n : Nat) : List α := if (downL lt f H i n).2 > i then (downL lt f H i n).1 else upL lt f (downL lt f H i n).1 i

theorem fix_ok {H : List α} {i n : Nat} (hn : n ≤ H.length) (hi : i < n) (h1 : ∀ k, 0 < k → k < n → k ≠ i → (k - 1) / 2 ≠ i → lt (f (at_ H k)) (f (at_ H ((k - 1) / 2))) = false)
    (h2 : ∀ k, 0 < k → k < n → (k - 1) / 2 = i → 0 < i → lt (f (at_ H k)) (f (at_ H ((i - 1) / 2))) = false) : Ok lt f n (fixL lt f H i n) := by
  have hle := fun k k0 kn hk => kid_least (f := f) O (H := H) (i := i) (n := n) (k := k) k0 kn hk
  have hku := kid_up lt f H i n
  have hkg := kid_gt lt f H i n
  unfold fixL
  rw [downL]
  split
  · rename_i h
    obtain ⟨hin, hlt⟩ := h
    have hkl := kid_lt lt f H hin
    generalize kid lt f H i n = c at *
    have hge := downL_ge (lt := lt) (f := f) (n - c) (H := sw H i c) (i := c) (n := n) rfl
    rw [if_pos (by omega)]
    have hs := fun k => at_sw (H := H) (i := i) (j := c) (by omega) (by omega) k
    have has := O.asym _ _ hlt
    refine down_ok O (n - c) rfl (by simpa using hn) hkl (fun k k0 kn kp => ?_) (fun k k0 kn kk c0 => ?_)
    · rw [hs, hs]
      by_cases e1 : k = c
      · subst e1
        rw [hku]
        simp only [tr, if_true]
        rw [if_neg (by omega)]
        exact has
      · by_cases e2 : k = i
        · subst e2
          have e3 : (k - 1) / 2 ≠ c := by omega
          have e4 : (k - 1) / 2 ≠ k := by omega
          simp only [tr, e1, e3, e4, if_true, if_false]
          exact h2 c (by omega) hkl hku k0
        · by_cases e3 : (k - 1) / 2 = i
          · rw [e3]
            simp only [tr, e1, e2, if_true, if_false]
            rw [if_neg (by omega)]
            exact hle k k0 kn e3
          · simp only [tr, e1, e2, e3, kp, if_false]
            exact h1 k k0 kn e2 e3
    · rw [hs, hs, hku]
      have e1 : k ≠ c := by omega
      have e2 : k ≠ i := by omega
      simp only [tr, e1, e2, if_true, if_false]
      rw [if_neg (by omega)]
      have := h1 k k0 kn e2 (by omega)
      rw [kk] at this
      exact this
  · rename_i h
    rw [if_neg (by simp)]
    refine up_ok O i hn hi (fun k k0 kn ki => ?_) h2
    by_cases e : (k - 1) / 2 = i
    · have hin : 2 * i + 1 < n := by omega
      have hb : lt (f (at_ H (kid lt f H i n))) (f (at_ H i)) = false := by
        cases hb : lt (f (at_ H (kid lt f H i n))) (f (at_ H i)) with
        | false => rfl
        | true => exact absurd ⟨hin, hb⟩ h
      rw [e]
      exact O.trans _ _ _ hb (hle k k0 kn e)
    · exact h1 k k0 kn ki e

theorem push_ok {H : List α} {x : α} (h : Ok lt f H.length H) : Ok lt f (H.length + 1) (upL lt f (H ++ [x]) H.length) := by
  have ha : ∀ k, k < H.length → at_ (H ++ [x]) k = at_ H k := fun k hk => by simp [at_, List.getD, List.getElem?_append_left hk]
  refine up_ok O H.length (by simp) (by omega) (fun k k0 kn ke => ?_) (fun k k0 kn kk _ => by omega)
  rw [ha k (by omega), ha _ (by omega)]
  exact h k k0 (by omega)

/-- One is taken away: the last one takes its place, and finds its own. -/
def cutL (lt : κ → κ → Bool) (f : α → κ) (H : List α) (i : Nat) : List α := if H.length - 1 = i then H else fixL lt f (sw H i (H.length - 1)) i (H.length - 1)

theorem cut_ok {H : List α} {i : Nat} (h : Ok lt f H.length H) (hi : i < H.length) : Ok lt f (H.length - 1) (cutL lt f H i) := by
  unfold cutL
  split
  · exact fun k k0 kn => h k k0 (by omega)
  · rename_i hne
    have hs := fun k => at_sw (H := H) (i := i) (j := H.length - 1) hi (by omega) k
    refine fix_ok O (by simp) (by omega) (fun k k0 kn ki kp => ?_) (fun k k0 kn kk i0 => ?_)
    · rw [hs, hs]
      have e1 : k ≠ H.length - 1 := by omega
      have e2 : (k - 1) / 2 ≠ H.length - 1 := by omega
      simp only [tr, e1, e2, ki, kp, if_false]
      exact h k k0 (by omega)
    · rw [hs, hs]
      have e1 : k ≠ H.length - 1 := by omega
      have e2 : (i - 1) / 2 ≠ H.length - 1 := by omega
      have e3 : k ≠ i := by omega
      have e4 : (i - 1) / 2 ≠ i := by omega
      simp only [tr, e1, e2, e3, e4, if_false]
      have a := h k k0 (by omega)
      rw [kk] at a
      exact O.trans _ _ _ (h i i0 hi) a

theorem top_least {H : List α} {n : Nat} (h : Ok lt f n H) : ∀ k, k < n → lt (f (at_ H k)) (f (at_ H 0)) = false := by
  intro k
  induction k using Nat.strongRecOn with
  | _ k ih =>
    intro hk
    by_cases k0 : k = 0
    · subst k0
      cases hb : lt (f (at_ H 0)) (f (at_ H 0)) with
      | false => rfl
      | true => exact absurd hb (by rw [O.asym _ _ hb]; simp)
    · exact O.trans _ _ _ (ih ((k - 1) / 2) (by omega) (by omega)) (h k (by omega) hk)

omit O
theorem fixL_perm {H : List α} {i n : Nat} (hn : n ≤ H.length) (hi : i < H.length) : (fixL lt f H i n).Perm H := by
  have hd := downL_perm (lt := lt) (f := f) (n - i) (H := H) rfl hn hi
  unfold fixL
  split
  · exact hd
  · exact (upL_perm i (by rw [hd.length_eq]; exact hi)).trans hd
theorem fixL_last {H : List α} {i n : Nat} (hn : n ≤ H.length) (hi : i < n) : at_ (fixL lt f H i n) n = at_ H n := by
  have hd := downL_perm (lt := lt) (f := f) (n - i) (H := H) rfl hn (by omega)
  have hl := downL_last (lt := lt) (f := f) (n - i) (H := H) rfl hn (by omega) hi (Nat.le_refl n)
  unfold fixL
  split
  · exact hl
  · rw [upL_last i (by rw [hd.length_eq]; omega) hi, hl]
theorem cutL_perm {H : List α} {i : Nat} (hi : i < H.length) : (cutL lt f H i).Perm H := by
  unfold cutL
  split
  · exact List.Perm.refl _
  · exact (fixL_perm (by simp) (by simpa using hi)).trans (sw_perm hi (by omega))
theorem cutL_last {H : List α} {i : Nat} (hi : i < H.length) : at_ (cutL lt f H i) (H.length - 1) = at_ H i := by
  unfold cutL
  split
  · rename_i h; rw [h]
  · rw [fixL_last (by simp) (by omega), at_sw hi (by omega)]
    simp [tr]
end
end Go.Proofs.Ytkhalpmmdlppkaa
