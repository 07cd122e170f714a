/-
  THE GENERIC LAYER 'Vm', part Y: a region whose order is open, where no look may pass a loud one: it is run as it stands.
-/
import Derived.Test.YtkhalpmmdlppkaaVmX
namespace Go.Vm
open Classical

/-- No look may stand behind, or ahead of, a loud one that it does not stand ahead of, or behind, in the text. -/
def looksStay (T : Table) (l : List DOp) : Bool :=
  l.zipIdx.all fun (o, i) => !(o.op.ins.look T) || o.op.ins.still || (List.range (l.length + 1)).all fun k => !(mayAt T l i k) ||
    l.zipIdx.all fun (p, j) => p.op.ins.look T || !(decide (min i k ≤ j) && decide (j < max i k))

def drawSeq (T : Table) (l : List DOp) : Bool := drawOk T l && looksStay T l

/-- The state ahead of the k-th. -/
def stOf (ts : List Tr) (σ' : St) (n k : Nat) : Option St := if k = n then some σ' else (ts[k]?).map Tr.σ

section
variable {T : Table}

theorem trace_of_ops {E : CallH} : ∀ {l : List DOp} {ρ : Env} {σ : St} {ρ' : Env} {σ' : St}, opsEv E (l.map DOp.op) ρ σ = some (ρ', σ') → ∃ ts, trace E l ρ σ = some (ts, ρ', σ')
  | [], ρ, σ, ρ', σ', h => by simp at h; obtain ⟨rfl, rfl⟩ := h; exact ⟨[], rfl⟩
  | ⟨⟨d, i, g⟩, pre⟩ :: l, ρ, σ, ρ', σ', h => by
    simp only [List.map_cons, opsEv, Op.ev] at h
    by_cases hw : wanted ρ g = true
    · rw [if_pos hw] at h
      cases hi : i.ev E ρ σ with
      | none => rw [hi] at h; simp at h
      | some q =>
        rw [hi] at h
        simp only [Option.map_some] at h
        obtain ⟨ts, ht⟩ := trace_of_ops h
        exact ⟨_, by rw [trace, if_pos hw, hi]; simp only; rw [ht]⟩
    · rw [if_neg hw] at h
      obtain ⟨ts, ht⟩ := trace_of_ops h
      exact ⟨_, by rw [trace, if_neg hw]; simp only; rw [ht]⟩

/-- From one step to the next: what a look does to the state. -/
theorem trace_next {E : CallH} (hpure : ∀ f fi, T f = some fi → fi.hint = .pure → ∀ args σ r σ', E f args σ = some (r, σ') → σ' = σ) :
    ∀ {l : List DOp} {ρ : Env} {σ : St} {ts : List Tr} {ρ' : Env} {σ' : St}, trace E l ρ σ = some (ts, ρ', σ') → ts.length = l.length ∧ (∀ t, ts[0]? = some t → t.σ = σ) ∧ (ts = [] → σ' = σ) ∧
      ∀ i o t, l[i]? = some o → ts[i]? = some t → (o.op.ins.look T = true → stOf ts σ' l.length (i + 1) = some t.σ) ∧ (wanted t.ρ o.op.guard = true → ∃ s, o.op.ins.ev E t.ρ t.σ = some (t.v, s) ∧ stOf ts σ' l.length (i + 1) = some s)
  | [], ρ, σ, ts, ρ', σ', h => by
    simp only [trace, Option.some.injEq, Prod.mk.injEq] at h
    obtain ⟨rfl, rfl, rfl⟩ := h
    exact ⟨rfl, fun t h => by simp at h, fun _ => rfl, fun i o t h => by simp at h⟩
  | o :: l, ρ, σ, ts, ρ', σ', h => by
    have main : ∀ (v : AV) (σ1 : St) (ts1 : List Tr), trace E l (ρ.put o.op.dst v) σ1 = some (ts1, ρ', σ') → (o.op.ins.look T = true → σ1 = σ) → (wanted ρ o.op.guard = true → o.op.ins.ev E ρ σ = some (v, σ1)) → ts = ⟨ρ, σ, v⟩ :: ts1 →
        ts.length = (o :: l).length ∧ (∀ t, ts[0]? = some t → t.σ = σ) ∧ (ts = [] → σ' = σ) ∧
        ∀ i o' t, (o :: l)[i]? = some o' → ts[i]? = some t → (o'.op.ins.look T = true → stOf ts σ' (o :: l).length (i + 1) = some t.σ) ∧ (wanted t.ρ o'.op.guard = true → ∃ s, o'.op.ins.ev E t.ρ t.σ = some (t.v, s) ∧ stOf ts σ' (o :: l).length (i + 1) = some s) := by
      intro v σ1 ts1 ht hlk hev e
      subst e
      obtain ⟨a1, a2, a3, a4⟩ := trace_next hpure ht
      have hst : ∀ k, stOf (⟨ρ, σ, v⟩ :: ts1) σ' (o :: l).length (k + 1) = stOf ts1 σ' l.length k := by
        intro k; simp [stOf]
      have h0 : stOf ts1 σ' l.length 0 = some σ1 := by
        unfold stOf
        cases ts1 with
        | nil =>
          have : l.length = 0 := by simpa using a1.symm
          rw [if_pos this.symm, a3 rfl]
        | cons t ts1 =>
          rw [if_neg (by rw [← a1]; simp)]
          simp [a2 t rfl]
      refine ⟨by simp [a1], fun t ht => by simp at ht; rw [← ht], fun h => by simp at h, fun i o' t h1 h2 => ?_⟩
      cases i with
      | zero =>
        simp only [List.getElem?_cons_zero, Option.some.injEq] at h1 h2
        subst h1; subst h2
        refine ⟨fun hl => ?_, fun hw => ⟨σ1, hev hw, ?_⟩⟩
        · rw [hst 0, h0, hlk hl]
        · rw [hst 0, h0]
      | succ i =>
        simp only [List.getElem?_cons_succ] at h1 h2
        rw [hst (i + 1)]
        exact a4 i o' t h1 h2
    unfold trace at h
    split at h
    · rename_i hw
      split at h
      · rename_i v σ1 hv
        split at h
        · rename_i ts1 r ht
          simp only [Option.some.injEq, Prod.mk.injEq] at h
          obtain ⟨rfl, rfl⟩ := h
          exact main v σ1 ts1 ht (fun hl => looks_keep hpure hl hv) (fun _ => hv) rfl
        · simp at h
      · simp at h
    · rename_i hw
      split at h
      · rename_i ts1 r ht
        simp only [Option.some.injEq, Prod.mk.injEq] at h
        obtain ⟨rfl, rfl⟩ := h
        exact main (.tup []) σ ts1 ht (fun _ => rfl) (fun hw' => absurd hw' hw) rfl
      · simp at h

theorem same_between {E : CallH} (hpure : ∀ f fi, T f = some fi → fi.hint = .pure → ∀ args σ r σ', E f args σ = some (r, σ') → σ' = σ) {l : List DOp} {ρ : Env} {σ : St} {ts : List Tr} {ρ' : Env} {σ' : St}
    (ht : trace E l ρ σ = some (ts, ρ', σ')) {a : Nat} : ∀ (m : Nat), a + m ≤ l.length → (∀ j o, l[j]? = some o → a ≤ j → j < a + m → o.op.ins.look T = true) → stOf ts σ' l.length (a + m) = stOf ts σ' l.length a
  | 0, _, _ => rfl
  | m + 1, hm, hall => by
    obtain ⟨a1, _, _, a4⟩ := trace_next hpure ht
    have ho : l[a + m]? = some l[a + m] := List.getElem?_eq_getElem (by omega)
    have htt : ts[a + m]? = some ts[a + m] := List.getElem?_eq_getElem (by omega)
    have := (a4 (a + m) _ _ ho htt).1 (hall (a + m) _ ho (by omega) (by omega))
    rw [← same_between hpure ht m (by omega) fun j o h1 h2 h3 => hall j o h1 h2 (by omega), show a + (m + 1) = a + m + 1 by omega, this]
    unfold stOf
    rw [if_neg (by omega), htt]; rfl

theorem trace_prefix {E : CallH} : ∀ {l : List DOp} {ρ : Env} {σ : St} {ts : List Tr} {ρ' : Env} {σ' : St}, trace E l ρ σ = some (ts, ρ', σ') →
    ∀ k, k ≤ l.length → ∃ ρk s, opsEv E ((l.take k).map DOp.op) ρ σ = some (ρk, s) ∧ stOf ts σ' l.length k = some s ∧ ∀ t, ts[k]? = some t → t.ρ = ρk
  | [], ρ, σ, ts, ρ', σ', h, k, hk => by
    simp only [trace, Option.some.injEq, Prod.mk.injEq] at h
    obtain ⟨rfl, rfl, rfl⟩ := h
    obtain rfl : k = 0 := by simpa using hk
    exact ⟨ρ, σ, rfl, by simp [stOf], fun t ht => by simp at ht⟩
  | o :: l, ρ, σ, ts, ρ', σ', h, k, hk => by
    have main : ∀ (v : AV) (σ1 : St) (ts1 : List Tr), trace E l (ρ.put o.op.dst v) σ1 = some (ts1, ρ', σ') → o.op.ev E ρ σ = some (ρ.put o.op.dst v, σ1) → ts = ⟨ρ, σ, v⟩ :: ts1 →
        ∃ ρk s, opsEv E (((o :: l).take k).map DOp.op) ρ σ = some (ρk, s) ∧ stOf ts σ' (o :: l).length k = some s ∧ ∀ t, ts[k]? = some t → t.ρ = ρk := by
      intro v σ1 ts1 ht hev e
      subst e
      cases k with
      | zero => exact ⟨ρ, σ, rfl, by simp [stOf], fun t ht => by simp at ht; rw [← ht]⟩
      | succ k =>
        obtain ⟨ρk, s, e1, e2, e3⟩ := trace_prefix ht k (by simpa using hk)
        refine ⟨ρk, s, ?_, ?_, fun t ht => e3 t (by simpa using ht)⟩
        · rw [List.take_succ_cons, List.map_cons, opsEv, hev]; exact e1
        · have : stOf (⟨ρ, σ, v⟩ :: ts1) σ' (o :: l).length (k + 1) = stOf ts1 σ' l.length k := by simp [stOf]
          rw [this]; exact e2
    unfold trace at h
    split at h
    · rename_i hw
      split at h
      · rename_i v σ1 hv
        split at h
        · rename_i ts1 r ht
          simp only [Option.some.injEq, Prod.mk.injEq] at h
          obtain ⟨rfl, rfl⟩ := h
          exact main v σ1 ts1 ht (by unfold Op.ev; rw [if_pos hw, hv]; rfl) rfl
        · simp at h
      · simp at h
    · rename_i hw
      split at h
      · rename_i ts1 r ht
        simp only [Option.some.injEq, Prod.mk.injEq] at h
        obtain ⟨rfl, rfl⟩ := h
        exact main (.tup []) σ ts1 ht (by unfold Op.ev; rw [if_neg hw]) rfl
      · simp at h

/-- A look that may stand elsewhere, and the state that it would meet there: to be shown alike. -/
def strays (T : Table) (l : List DOp) : List (Nat × Nat) :=
  l.zipIdx.flatMap fun (o, i) => if o.op.ins.look T && !o.op.ins.still then (List.range (l.length + 1)).filterMap fun k =>
    if mayAt T l i k && !(l.zipIdx.all fun (p, j) => p.op.ins.look T || !(decide (min i k ≤ j) && decide (j < max i k))) then some (i, k) else none else []

def Alike (E : CallH) (l : List DOp) (ρ : Env) (σ : St) (q : Nat × Nat) : Prop :=
  ∀ o ρi σi ρk σk v, l[q.1]? = some o → opsEv E ((l.take q.1).map DOp.op) ρ σ = some (ρi, σi) → opsEv E ((l.take q.2).map DOp.op) ρ σ = some (ρk, σk) → o.op.ins.ev E ρi σi = some (v, σi) → o.op.ins.ev E ρi σk = some (v, σk)

theorem draw_but {l : List DOp} (h : drawOk T l = true) {E : CallH} (hpure : ∀ f fi, T f = some fi → fi.hint = .pure → ∀ args σ r σ', E f args σ = some (r, σ') → σ' = σ) {ρ : Env} {σ : St} {r : Env × St}
    (hal : ∀ q, q ∈ strays T l → Alike E l ρ σ q) (ho : opsEv E (l.map DOp.op) ρ σ = some r) : drawEv E T l ρ σ = some r := by
  obtain ⟨ρ', σ'⟩ := r
  obtain ⟨ts, ht⟩ := trace_of_ops ho
  obtain ⟨a1, _, _, a4⟩ := trace_next hpure ht
  unfold drawEv
  rw [ht]
  simp only
  rw [if_pos]
  refine ⟨h, fun i o t h1 h2 h3 h4 h5 k s h6 h7 => ?_⟩
  have hi : i < l.length := (List.getElem?_eq_some_iff.1 h1).1
  have hk : k ≤ l.length := by
    rcases Nat.lt_or_ge l.length k with h8 | h8
    · rw [if_neg (by omega), List.getElem?_eq_none (by omega)] at h6; simp at h6
    · exact h8
  have h6' : stOf ts σ' l.length k = some s := h6
  have hti : stOf ts σ' l.length i = some t.σ := by
    unfold stOf; rw [if_neg (by omega), h2]; rfl
  obtain ⟨s', e1, e2⟩ := (a4 i o t h1 h2).2 h5
  rw [looks_keep hpure h3 e1] at e1
  by_cases hall : (l.zipIdx.all fun (p, j) => p.op.ins.look T || !(decide (min i k ≤ j) && decide (j < max i k))) = true
  · have hbet : ∀ j p, l[j]? = some p → min i k ≤ j → j < max i k → p.op.ins.look T = true := by
      intro j p hp hj1 hj2
      rw [List.all_eq_true] at hall
      have := hall (p, j) (List.mem_zipIdx_iff_getElem?.2 (by simpa using hp))
      simpa [hj1, hj2] using this
    have hs : s = t.σ := by
      have := same_between hpure ht (a := min i k) (max i k - min i k) (by omega) fun j o h1 h2 h3 => hbet j o h1 h2 (by omega)
      rw [show min i k + (max i k - min i k) = max i k by omega] at this
      rcases Nat.le_total i k with h8 | h8
      · rw [Nat.max_eq_right h8, Nat.min_eq_left h8, h6', hti] at this
        exact Option.some.inj this
      · rw [Nat.max_eq_left h8, Nat.min_eq_right h8, h6', hti] at this
        exact (Option.some.inj this).symm
    subst hs
    exact e1
  · have hmem : (i, k) ∈ strays T l := by
      unfold strays
      rw [List.mem_flatMap]
      refine ⟨(o, i), List.mem_zipIdx_iff_getElem?.2 (by simpa using h1), ?_⟩
      simp only [h3, h4, Bool.not_false, Bool.and_true, if_true]
      rw [List.mem_filterMap]
      refine ⟨k, by simp; omega, ?_⟩
      have hf : (l.zipIdx.all fun (p, j) => p.op.ins.look T || !(decide (min i k ≤ j) && decide (j < max i k))) = false := by simpa using hall
      rw [if_pos (by rw [h7, hf]; rfl)]
    obtain ⟨ρi, si, p1, p2, p3⟩ := trace_prefix ht i (by omega)
    obtain ⟨ρk, sk, q1, q2, _⟩ := trace_prefix ht k hk
    rw [hti] at p2; rw [h6'] at q2
    simp only [Option.some.injEq] at p2 q2
    subst p2; subst q2
    have hr := p3 t h2
    subst hr
    exact hal (i, k) hmem o _ _ _ _ _ h1 p1 q1 e1

theorem draw_seq {l : List DOp} (h : drawSeq T l = true) {E : CallH} (hpure : ∀ f fi, T f = some fi → fi.hint = .pure → ∀ args σ r σ', E f args σ = some (r, σ') → σ' = σ) {ρ : Env} {σ : St} {r : Env × St}
    (ho : opsEv E (l.map DOp.op) ρ σ = some r) : drawEv E T l ρ σ = some r := by
  simp only [drawSeq, Bool.and_eq_true] at h
  refine draw_but h.1 hpure (fun q hq => ?_) ho
  exfalso
  obtain ⟨i, k⟩ := q
  simp only [strays, List.mem_flatMap] at hq
  obtain ⟨⟨o, j⟩, hm, hq⟩ := hq
  have hst := List.all_eq_true.1 h.2 (o, j) hm
  simp only at hq hst
  split at hq
  · rename_i hc
    simp only [Bool.and_eq_true, Bool.not_eq_true'] at hc
    simp only [hc.1, hc.2, Bool.not_true, Bool.false_or, List.all_eq_true] at hst
    rw [List.mem_filterMap] at hq
    obtain ⟨k', hk', hq⟩ := hq
    have := hst k' hk'
    split at hq
    · rename_i hc2
      rw [Bool.and_eq_true] at hc2
      rw [hc2.1] at this
      simp only [Bool.not_true, Bool.false_or] at this
      have h2 := hc2.2
      rw [Bool.not_eq_true'] at h2
      rw [this] at h2
      simp at h2
    · simp at hq
  · simp at hq

/-- The region, run as it stands. -/
theorem go_draw {l : List DOp} (h : drawSeq T l = true) {ρ : Env} {σ : St} {r : Env × St} (ho : opsEv (ev T) (l.map DOp.op) ρ σ = some r) : run T (.draw l) ρ σ = some (.normal, r.1, r.2) := by
  have := draw_seq (E := ev T) h callOf_pure ho
  rw [run_draw, this]

theorem go_but {l : List DOp} (h : drawOk T l = true) {ρ : Env} {σ : St} {r : Env × St} (hal : ∀ q, q ∈ strays T l → Alike (ev T) l ρ σ q) (ho : opsEv (ev T) (l.map DOp.op) ρ σ = some r) : run T (.draw l) ρ σ = some (.normal, r.1, r.2) := by
  have := draw_but (E := ev T) h callOf_pure hal ho
  rw [run_draw, this]

noncomputable def drawOut (T : Table) (l : List DOp) (ρ : Env) (σ : St) : Option (Env × St) → Option (Ex × Env × St)
  | some (ρ', σ') => some (.normal, ρ', σ')
  | none => run T (.draw l) ρ σ
@[simp] theorem draw_some (l : List DOp) (ρ ρ' : Env) (σ σ' : St) : drawOut T l ρ σ (some (ρ', σ')) = some (.normal, ρ', σ') := rfl
theorem drawn {l : List DOp} (h : drawSeq T l = true) (ρ : Env) (σ : St) : run T (.draw l) ρ σ = drawOut T l ρ σ (opsEv (ev T) (l.map DOp.op) ρ σ) := by
  cases ho : opsEv (ev T) (l.map DOp.op) ρ σ with
  | none => rfl
  | some r => exact go_draw h ho
end
end Go.Vm
