/-
  THE GENERIC LAYER 'Vm', part O: the theorem on regions whose order is open.
-/
import Derived.Test.YtkhalpmmdlppkaaVmN
namespace Go.Vm
open Classical

/-- The slots behind just those that are chosen, in the order of the text. -/
def envSel : List DOp → List Tr → (Nat → Bool) → Nat → Env → Env
  | o :: l, t :: ts, sel, k, ρ => envSel l ts sel (k + 1) (if sel k then ρ.put o.op.dst t.v else ρ)
  | _, _, _, _, ρ => ρ

theorem put_at (ρ : Env) (d : Option Nat) (v : AV) (t : Nat) : ρ.put d v t = if d = some t then v else ρ t := by
  cases d with
  | none => simp [Env.put]
  | some d =>
    by_cases h : t = d
    · simp [Env.put, h]
    · have h' : ¬ d = t := fun e => h e.symm
      simp [Env.put, h, h']

theorem envSel_congr : ∀ (l : List DOp) (ts : List Tr) (s1 s2 : Nat → Bool) (k : Nat) (ρ1 ρ2 : Env) (t : Nat), ρ1 t = ρ2 t → (∀ j o, l[j]? = some o → o.op.dst = some t → s1 (k + j) = s2 (k + j)) →
    envSel l ts s1 k ρ1 t = envSel l ts s2 k ρ2 t
  | [], _, _, _, _, _, _, _, h, _ => by simpa [envSel] using h
  | _ :: _, [], _, _, _, _, _, _, h, _ => by simpa [envSel] using h
  | o :: l, tr :: ts, s1, s2, k, ρ1, ρ2, t, h, hs => by
    simp only [envSel]
    refine envSel_congr l ts s1 s2 (k + 1) _ _ t ?_ (fun j o' ho hd => by have := hs (j + 1) o' (by simpa using ho) hd; rwa [show k + 1 + j = k + (j + 1) by omega])
    by_cases hd : o.op.dst = some t
    · have := hs 0 o rfl hd
      simp only [Nat.add_zero] at this
      rw [this]
      cases s2 k <;> simp [put_at, hd, h]
    · cases s1 k <;> cases s2 k <;> simp [put_at, hd, h]

theorem envSel_none : ∀ (l : List DOp) (ts : List Tr) (s : Nat → Bool) (k : Nat) (ρ : Env), (∀ j, j < l.length → s (k + j) = false) → envSel l ts s k ρ = ρ
  | [], _, _, _, _, _ => by simp [envSel]
  | _ :: _, [], _, _, _, _ => by simp [envSel]
  | o :: l, tr :: ts, s, k, ρ, h => by
    have h0 := h 0 (by simp)
    simp only [Nat.add_zero] at h0
    simp only [envSel, h0]
    exact envSel_none l ts s (k + 1) _ fun j hj => by have := h (j + 1) (by simpa using hj); rwa [show k + 1 + j = k + (j + 1) by omega]

/-- One more is chosen. -/
theorem envSel_more : ∀ (l : List DOp) (ts : List Tr) (s : Nat → Bool) (k i : Nat) (ρ : Env) (o : DOp) (tr : Tr), ts.length = l.length → l[i]? = some o → ts[i]? = some tr →
    (∀ j p d, l[j]? = some p → p.op.dst = some d → o.op.dst = some d → j = i) → s (k + i) = false →
    ∀ t, envSel l ts (fun j => s j || decide (j = k + i)) k ρ t = (envSel l ts s k ρ).put o.op.dst tr.v t
  | [], _, _, _, _, _, _, _, _, h, _, _, _, _ => by simp at h
  | _ :: _, [], _, _, _, _, _, _, hl, _, _, _, _, _ => by simp at hl
  | o' :: l, tr' :: ts, s, k, i, ρ, o, tr, hl, ho, ht, hu, hs, t => by
    cases i with
    | zero =>
      simp only [List.getElem?_cons_zero, Option.some.injEq] at ho ht
      subst ho; subst ht
      simp only [Nat.add_zero] at hs
      simp only [envSel, hs, Nat.add_zero, decide_true, Bool.or_true, if_true, Bool.false_eq_true, if_false]
      rw [put_at]
      by_cases hd : o'.op.dst = some t
      · rw [if_pos hd]
        have := envSel_congr l ts (fun j => s j || decide (j = k)) (fun _ => false) (k + 1) (ρ.put o'.op.dst tr'.v) (ρ.put o'.op.dst tr'.v) t rfl (fun j p hp hpd => by
          have := hu (j + 1) p t (by simpa using hp) hpd hd
          omega)
        rw [this, envSel_none _ _ _ _ _ (fun _ _ => rfl), put_at, if_pos hd]
      · rw [if_neg hd]
        refine envSel_congr l ts _ s (k + 1) _ _ t (by rw [put_at, if_neg hd]) (fun j p hp hpd => ?_)
        have : ¬ (k + 1 + j = k) := by omega
        simp [this]
    | succ i =>
      simp only [List.getElem?_cons_succ] at ho ht
      have hk : ¬ (k = k + (i + 1)) := by omega
      simp only [envSel, hk, decide_false, Bool.or_false]
      have := envSel_more l ts s (k + 1) i (if s k = true then ρ.put o'.op.dst tr'.v else ρ) o tr (by simpa using hl) ho ht (fun j p d hp hpd hod => by
        have := hu (j + 1) p d (by simpa using hp) hpd hod; omega) (by rwa [show k + 1 + i = k + (i + 1) by omega]) t
      rw [show k + 1 + i = k + (i + 1) by omega] at this
      exact this

/-- What the run in the order of the text met. -/
theorem trace_env {E : CallH} : ∀ (l : List DOp) (ρ : Env) (σ : St) (ts : List Tr) (ρ' : Env) (σ' : St), trace E l ρ σ = some (ts, ρ', σ') →
    ts.length = l.length ∧ ρ' = envSel l ts (fun _ => true) 0 ρ ∧ (∀ i t, ts[i]? = some t → t.ρ = envSel (l.take i) (ts.take i) (fun _ => true) 0 ρ) := by
  intro l
  induction l with
  | nil =>
    intro ρ σ ts ρ' σ' h
    simp only [trace, Option.some.injEq, Prod.mk.injEq] at h
    obtain ⟨rfl, rfl, rfl⟩ := h
    exact ⟨rfl, rfl, fun i t h => by simp at h⟩
  | cons o l ih =>
    intro ρ σ ts ρ' σ' h
    have shift : ∀ (l : List DOp) (ts : List Tr) (k : Nat) (ρ : Env), envSel l ts (fun _ => true) k ρ = envSel l ts (fun _ => true) 0 ρ := by
      intro l
      induction l with
      | nil => intro ts k ρ; simp [envSel]
      | cons o l ih =>
        intro ts k ρ
        cases ts with
        | nil => simp [envSel]
        | cons t ts => simp only [envSel]; rw [ih ts (k + 1), ih ts (0 + 1)]
    have main : ∀ (v : AV) (σ1 : St) (ts1 : List Tr), trace E l (ρ.put o.op.dst v) σ1 = some (ts1, ρ', σ') → ts = ⟨ρ, σ, v⟩ :: ts1 →
        ts.length = (o :: l).length ∧ ρ' = envSel (o :: l) ts (fun _ => true) 0 ρ ∧ (∀ i t, ts[i]? = some t → t.ρ = envSel ((o :: l).take i) (ts.take i) (fun _ => true) 0 ρ) := by
      intro v σ1 ts1 h1 e
      subst e
      obtain ⟨a1, a2, a3⟩ := ih _ _ _ _ _ h1
      refine ⟨by simp [a1], ?_, fun i t hi => ?_⟩
      · simp only [envSel, if_true]; rw [shift, a2]
      · cases i with
        | zero => simp at hi; subst hi; simp [envSel]
        | succ i =>
          simp only [List.getElem?_cons_succ] at hi
          rw [a3 i t hi]
          simp only [List.take_succ_cons, envSel, if_true]
          exact (shift _ _ (0 + 1) _).symm
    simp only [trace] at h
    split at h
    · split at h
      · rename_i v σ1 hev
        split at h
        · rename_i ts1 r hr
          simp only [Option.some.injEq, Prod.mk.injEq] at h
          obtain ⟨h1, h2⟩ := h
          subst h2
          exact main v σ1 ts1 hr h1.symm
        · simp at h
      · simp at h
    · split at h
      · rename_i ts1 r hr
        simp only [Option.some.injEq, Prod.mk.injEq] at h
        obtain ⟨h1, h2⟩ := h
        subst h2
        exact main _ σ ts1 hr h1.symm
      · simp at h

theorem envSel_take (l : List DOp) (ts : List Tr) (ρ : Env) (hl : ts.length = l.length) (i : Nat) : envSel (l.take i) (ts.take i) (fun _ => true) 0 ρ = envSel l ts (fun j => decide (j < i)) 0 ρ := by
  have key : ∀ (l : List DOp) (ts : List Tr) (k i : Nat) (ρ : Env), ts.length = l.length → envSel (l.take i) (ts.take i) (fun _ => true) k ρ = envSel l ts (fun j => decide (j < k + i)) k ρ := by
    intro l
    induction l with
    | nil => intro ts k i ρ _; simp [envSel]
    | cons o l ih =>
      intro ts k i ρ hl
      cases ts with
      | nil => simp at hl
      | cons t ts =>
        cases i with
        | zero =>
          simp only [List.take_zero, envSel]
          have hk : ¬ (k < k + 0) := by omega
          simp only [hk, decide_false, Bool.false_eq_true, if_false]
          exact (envSel_none _ _ _ _ _ fun j _ => by simp; omega).symm
        | succ i =>
          simp only [List.take_succ_cons, envSel, if_true]
          have hk : k < k + (i + 1) := by omega
          simp only [hk, decide_true, if_true]
          rw [ih ts (k + 1) i _ (by simpa using hl)]
          rw [show k + 1 + i = k + (i + 1) by omega]
  have := key l ts 0 i ρ hl
  simpa using this

/-- The state that an operation met, and what it made of it. -/
theorem trace_st {E : CallH} : ∀ (l : List DOp) (ρ : Env) (σ : St) (ts : List Tr) (ρ' : Env) (σ' : St), trace E l ρ σ = some (ts, ρ', σ') →
    ∀ i o t, l[i]? = some o → ts[i]? = some t →
      (wanted t.ρ o.op.guard = true → o.op.ins.ev E t.ρ t.σ = some (t.v, ((ts[i + 1]?).map Tr.σ).getD σ')) ∧ (wanted t.ρ o.op.guard = false → t.v = .tup [] ∧ ((ts[i + 1]?).map Tr.σ).getD σ' = t.σ) := by
  intro l
  induction l with
  | nil => intro ρ σ ts ρ' σ' h i o t ho; simp at ho
  | cons o l ih =>
    intro ρ σ ts ρ' σ' h i o1 t ho ht
    have first : ∀ (l : List DOp) (ρ : Env) (σ : St) (ts : List Tr) (ρ' : Env) (σ' : St), trace E l ρ σ = some (ts, ρ', σ') → ((ts[0]?).map Tr.σ).getD σ' = σ := by
      intro l ρ σ ts ρ' σ' h
      cases l with
      | nil => simp only [trace, Option.some.injEq, Prod.mk.injEq] at h; obtain ⟨rfl, rfl, rfl⟩ := h; rfl
      | cons o l =>
        simp only [trace] at h
        split at h
        · split at h
          · split at h
            · simp only [Option.some.injEq, Prod.mk.injEq] at h; rw [← h.1]; rfl
            · simp at h
          · simp at h
        · split at h
          · simp only [Option.some.injEq, Prod.mk.injEq] at h; rw [← h.1]; rfl
          · simp at h
    simp only [trace] at h
    split at h
    · rename_i hw
      split at h
      · rename_i v σ1 hev
        split at h
        · rename_i ts1 r hr
          obtain ⟨ρ2, σ2⟩ := r
          simp only [Option.some.injEq, Prod.mk.injEq] at h
          obtain ⟨rfl, rfl, rfl⟩ := h
          cases i with
          | zero =>
            simp only [List.getElem?_cons_zero, Option.some.injEq] at ho ht
            subst ho; subst ht
            have := first _ _ _ _ _ _ hr
            refine ⟨fun _ => ?_, fun hf => by simp only at hf; rw [hw] at hf; simp at hf⟩
            simp only [List.getElem?_cons_succ, this]; exact hev
          | succ i =>
            simp only [List.getElem?_cons_succ] at ho ht ⊢
            exact ih _ _ _ _ _ hr i o1 t ho ht
        · simp at h
      · simp at h
    · rename_i hw
      split at h
      · rename_i ts1 r hr
        obtain ⟨ρ2, σ2⟩ := r
        simp only [Option.some.injEq, Prod.mk.injEq] at h
        obtain ⟨rfl, rfl, rfl⟩ := h
        cases i with
        | zero =>
          simp only [List.getElem?_cons_zero, Option.some.injEq] at ho ht
          subst ho; subst ht
          have := first _ _ _ _ _ _ hr
          exact ⟨fun hf => absurd hf hw, fun _ => ⟨rfl, by simpa using this⟩⟩
        | succ i =>
          simp only [List.getElem?_cons_succ] at ho ht ⊢
          exact ih _ _ _ _ _ hr i o1 t ho ht
      · simp at h


/-! ### the translation -/

def predsOf (ops : List Oper) : List (List Nat) :=
  ops.foldl (fun acc o => acc ++ [(o.after.toList.filter (Region.binds .any)).foldl (fun s e => (e.on :: acc.getD e.on []).foldl (fun s x => if s.contains x then s else x :: s) s) []]) []

def trDraw (P : Program) (nt : Nat) (ops : Array Oper) : List DOp :=
  (ops.toList.zip (predsOf ops.toList)).map fun (o, p) => ⟨trOp P nt ops o, p⟩

/-- The preds that stand in the text are met by its edges. -/
def predsOk (ops : Array Oper) (l : List DOp) : Bool :=
  l.length == ops.size &&
  (ops.toList.zip l).zipIdx.all fun ((o, d), i) =>
    (o.after.toList.filter (Region.binds .any)).all (fun e => decide (e.on < i)) &&
    d.pre.all fun p => (o.after.toList.filter (Region.binds .any)).any fun e => e.on == p || ((l[e.on]?).map (·.pre.contains p)).getD false

section
variable {P : Program}

def stAt (ts : List Tr) (σ' : St) (k : Nat) : St := ((ts[k]?).map Tr.σ).getD σ'

theorem looks_keep {E : CallH} {T : Table} (hpure : ∀ f fi, T f = some fi → fi.hint = .pure → ∀ args σ r σ', E f args σ = some (r, σ') → σ' = σ) {i : Ins} (h : i.look T = true) {ρ : Env} {σ σ' : St} {v : AV}
    (he : i.ev E ρ σ = some (v, σ')) : σ' = σ := by
  by_cases hs : i.still = true
  · exact (still_ev hs he).1
  · cases i <;> simp only [Ins.look, Ins.still, Bool.false_eq_true, not_true_eq_false] at h hs
    case load => simp only [Ins.ev] at he; exact (ret1_some he).2
    case idxB =>
      simp only [Ins.ev] at he
      split at he <;> simp only [Option.some.injEq, Prod.mk.injEq, reduceCtorEq] at he
      exact he.2.symm
    case cmpB =>
      simp only [Ins.ev] at he
      split at he <;> simp only [Option.some.injEq, Prod.mk.injEq, reduceCtorEq] at he
      exact he.2.symm
    case strOf =>
      simp only [Ins.ev] at he
      split at he
      · simp at he
      · split at he <;> simp only [Option.bind_eq_some_iff, Option.map_eq_some_iff, Prod.mk.injEq, reduceCtorEq] at he
        obtain ⟨_, _, _, _, _, rfl⟩ := he; rfl
    case len => simp only [Ins.ev, Option.map_eq_some_iff, Prod.mk.injEq] at he; obtain ⟨_, _, _, rfl⟩ := he; rfl
    case slArr => simp only [Ins.ev] at he; exact (ret1_some he).2
    case lookup =>
      simp only [Ins.ev, Option.bind_eq_some_iff] at he
      obtain ⟨_, _, _, _, he⟩ := he
      split at he
      · simp only [Option.map_eq_some_iff, Prod.mk.injEq] at he; obtain ⟨_, _, _, rfl⟩ := he; rfl
      · simp only [Option.some.injEq, Prod.mk.injEq] at he; exact he.2.symm
    case call f as =>
      simp only [Ins.ev] at he
      split at h
      · rename_i fi hfi
        split at h
        · rename_i hh; exact hpure f fi hfi hh _ _ _ _ he
        · simp at h
      · simp at h

end
end Go.Vm
