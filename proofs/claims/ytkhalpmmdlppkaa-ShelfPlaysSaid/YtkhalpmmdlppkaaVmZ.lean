/-
  THE GENERIC LAYER 'Vm', part Z: loops by an invariant; calls over nil.
-/
import Derived.Test.YtkhalpmmdlppkaaVmY
namespace Go.Vm
open Classical

section
variable {T : Table}

/-- A loop whose rounds are counted. -/
theorem loop_n {c : C} {e : Ex} (he : e ≠ .normal) {n : Nat} (I : Nat → Env → St → Prop) {Q : Env → St → Prop}
    (hstep : ∀ i, i < n → ∀ ρ σ, I i ρ σ → ∃ ρ' σ', run T c ρ σ = some (.normal, ρ', σ') ∧ I (i + 1) ρ' σ')
    (hend : ∀ ρ σ, I n ρ σ → ∃ ρ' σ', run T c ρ σ = some (e, ρ', σ') ∧ Q ρ' σ') {ρ : Env} {σ : St} {r} (hr : run T (.loop c) ρ σ = r) (h0 : I 0 ρ σ) :
    ∃ ρ' σ', r = some (e, ρ', σ') ∧ Q ρ' σ' := by
  subst hr
  have key : ∀ m i, i + m = n → ∀ ρ σ, I i ρ σ → ∃ ρ' σ', run T (.loop c) ρ σ = some (e, ρ', σ') ∧ Q ρ' σ' := by
    intro m
    induction m with
    | zero =>
      intro i hi ρ σ h
      obtain rfl : i = n := by omega
      obtain ⟨ρ', σ', h1, h2⟩ := hend ρ σ h
      refine ⟨ρ', σ', ?_, h2⟩
      rw [run_loop, h1]
      cases e <;> first | exact absurd rfl he | rfl
    | succ m ih =>
      intro i hi ρ σ h
      obtain ⟨ρ1, σ1, h1, h2⟩ := hstep i (by omega) ρ σ h
      obtain ⟨ρ', σ', h3, h4⟩ := ih (i + 1) (by omega) ρ1 σ1 h2
      exact ⟨ρ', σ', by rw [run_loop, h1]; exact h3, h4⟩
  exact key n 0 (by omega) ρ σ h0

/-- A loop that ends: something falls in each round. -/
theorem loop_wf {c : C} (I : Env → St → Prop) (m : Env → St → Nat) {Q : Ex → Env → St → Prop}
    (hstep : ∀ ρ σ, I ρ σ → ∃ e ρ' σ', run T c ρ σ = some (e, ρ', σ') ∧ ((e = .normal ∧ I ρ' σ' ∧ m ρ' σ' < m ρ σ) ∨ (e ≠ .normal ∧ Q e ρ' σ')))
    {ρ : Env} {σ : St} {r} (hr : run T (.loop c) ρ σ = r) (h0 : I ρ σ) : ∃ e ρ' σ', r = some (e, ρ', σ') ∧ Q e ρ' σ' := by
  subst hr
  have key : ∀ k ρ σ, m ρ σ < k → I ρ σ → ∃ e ρ' σ', run T (.loop c) ρ σ = some (e, ρ', σ') ∧ Q e ρ' σ' := by
    intro k
    induction k with
    | zero => intro ρ σ h; omega
    | succ k ih =>
      intro ρ σ hk h
      obtain ⟨e, ρ1, σ1, h1, h2⟩ := hstep ρ σ h
      rcases h2 with ⟨rfl, h2, h3⟩ | ⟨h2, h3⟩
      · obtain ⟨e, ρ', σ', h4, h5⟩ := ih ρ1 σ1 (by omega) h2
        exact ⟨e, ρ', σ', by rw [run_loop, h1]; exact h4, h5⟩
      · refine ⟨e, ρ1, σ1, ?_, h3⟩
        rw [run_loop, h1]
        cases e <;> first | exact absurd rfl h2 | rfl
  exact key _ ρ σ (Nat.lt_succ_self _) h0

variable {f : FuncId} {nt np : Nat} {code : C} {res : List RV}

/-- A call of a method over nil: no object is turned. -/
theorem ev_nil (hf : T f = some ⟨nt, np, code, res, .mut [(0, [])] none⟩) {as ys : List AV} {σ σ1 : St} (hin : as.mapM (argIn σ []) = some ys) {r r' : AV}
    (hrun : bodyOf (run T) ⟨nt, np, code, res, .mut [(0, [])] none⟩ (.nilp :: ys) (σ.only []) = some (r, σ1)) (hr : frz σ1 σ.next [] 7 (okObj []) r = some r') :
    ev T f (.nilp :: as) σ = some (r', σ) := by
  have hfo : footOf σ (.nilp :: as) [(0, [])] = some [] := by simp [footOf, walkTo]
  have hin' : (AV.nilp :: as).mapM (argIn σ []) = some (.nilp :: ys) := by
    rw [List.mapM_cons, hin]; rfl
  simp only [ev, callOf, fnOf, hf, mutOf, hfo, hin', hrun, Option.bind_some, newOf, objsOf, List.map_nil, List.append_nil, layAll, resOf]
  rw [if_pos ⟨by simp [idsNodup], by simp [natsNodup], by simp, by simp⟩]
  rw [show depth = 7 from rfl]
  rw [hr]
  simp [St.putAll, St.bump]
theorem ev_nilNew (hf : T f = some ⟨nt, np, code, res, .mut [(0, [])] (some none)⟩) {as ys : List AV} {σ σ1 : St} (hin : as.mapM (argIn σ []) = some ys)
    (hrun : bodyOf (run T) ⟨nt, np, code, res, .mut [(0, [])] (some none)⟩ (.nilp :: ys) (σ.only []) = some (.nilp, σ1)) :
    ev T f (.nilp :: as) σ = some (.nilp, σ) := by
  have hfo : footOf σ (.nilp :: as) [(0, [])] = some [] := by simp [footOf, walkTo]
  have hin' : (AV.nilp :: as).mapM (argIn σ []) = some (.nilp :: ys) := by
    rw [List.mapM_cons, hin]; rfl
  simp only [ev, callOf, fnOf, hf, mutOf, hfo, hin', hrun, Option.bind_some, newOf, resAt, objsOf, List.map_nil, List.append_nil, layAll, resOf, newPtr]
  rw [if_pos ⟨by simp [idsNodup], by simp [natsNodup], by simp, by simp⟩]
  simp [St.putAll, St.bump]
end
end Go.Vm
