/-
  THE GENERIC LAYER 'Vm', part Q: code, and a function's body.
-/
import Derived.Test.YtkhalpmmdlppkaaVmP
namespace Go.Vm
open Classical

def trC (P : Program) (nt : Nat) : Code → C
  | .skip => .skip
  | .region _ ops draw =>
    if draw then (if predsOk ops (trDraw P nt ops) then .draw (trDraw P nt ops) else .no) else .ops (ops.toList.map (trOp P nt ops))
  | .seq a b => .seq (trC P nt a) (trC P nt b)
  | .cond x a b => match trArg nt x with
    | some y => .cond y (trC P nt a) (trC P nt b)
    | none => .no
  | .block id c => .block id (trC P nt c)
  | .loop c => .loop (trC P nt c)
  | .exit id => .exit id
  | .ret => .ret
  | _ => .no

def exR : Ex → Exit → Prop
  | .normal, .normal => True
  | .exit i, .exit j => i = j
  | .ret, .ret => True
  | _, _ => False

def PostC (K : Ctx) (nt : Nat) (e : Ex) (ρ' : Env) (σ' : St) (a0 : Act) : Exit → Act → World → Prop := fun ex a' w' =>
  exR e ex ∧ ∃ K', K'.w = w' ∧ Step K K' ∧ Rel K' σ' ∧ EnvR K' nt ρ' a' ∧ a'.defers = a0.defers

theorem PostC.mono {K K1 : Ctx} {nt : Nat} {e : Ex} {ρ' : Env} {σ' : St} {a0 a1 : Act} (hs : Step K K1) (hd : a1.defers = a0.defers) {ex : Exit} {a' : Act} {w' : World} (h : PostC K1 nt e ρ' σ' a1 ex a' w') : PostC K nt e ρ' σ' a0 ex a' w' := by
  obtain ⟨h1, K', h2, h3, h4, h5, h6⟩ := h
  exact ⟨h1, K', h2, hs.trans h3, h4, h5, h6.trans hd⟩

section
variable {P : Program} {T : Table}

/-- A loop's rounds. -/
def LoopWp (P : Program) (c : Code) (Q : Exit → Act → World → Prop) (a : Act) (w : World) : Prop :=
  ∀ (b : Frame) (k : List Item) (cs : List Frame), ∃ e a' w', Q e a' w' ∧ Arrives P (lone (b.at a (.code c :: .inLoop c :: k)) cs w) b k cs e a' w'

theorem loop_of (c : Code) (Q : Exit → Act → World → Prop) (a : Act) (w : World) (h : LoopWp P c Q a w) : (Code.loop c).wp P Q a w := by
  intro b k cs
  obtain ⟨e, a', w', hq, harr⟩ := h b k cs
  exact ⟨e, a', w', hq, .of_steps (.one step_loop) harr⟩

theorem loop_round (c : Code) (Q : Exit → Act → World → Prop) (a : Act) (w : World) (h : c.wp P (Exit.then (LoopWp P c Q) Q) a w) : LoopWp P c Q a w := by
  intro b k cs
  obtain ⟨e, a₁, w₁, hq, harr⟩ := h b (.inLoop c :: k) cs
  cases e with
  | normal =>
    obtain ⟨e₂, a₂, w₂, hq₂, harr₂⟩ := hq b k cs
    exact ⟨e₂, a₂, w₂, hq₂, .of_steps (Steps.trans harr (.one step_inLoop)) harr₂⟩
  | exit id => exact ⟨_, a₁, w₁, hq, .pass (x := .inLoop c) rfl (fun _ _ => .inl (by simp)) harr⟩
  | goto l => exact ⟨_, a₁, w₁, hq, .pass (x := .inLoop c) rfl (fun _ _ => .inl (by simp)) harr⟩
  | ret => exact ⟨_, a₁, w₁, hq, .pass (x := .inLoop c) rfl (fun _ _ => .inl (by simp)) harr⟩
  | panic ch => exact ⟨_, a₁, w₁, hq, .pass (x := .inLoop c) rfl (fun _ _ => .inl (by simp)) harr⟩
  | outgrown => exact ⟨_, a₁, w₁, hq, .pass (x := .inLoop c) rfl (fun _ _ => .inl (by simp)) harr⟩

def SoundR (P : Program) (R : Runner) : Prop := ∀ (nt : Nat) (code : Code) (ρ : Env) (σ : St) (e : Ex) (ρ' : Env) (σ' : St), R (trC P nt code) ρ σ = some (e, ρ', σ') →
  ∀ (K : Ctx) (a : Act), Rel K σ → EnvR K nt ρ a → code.wp P (PostC K nt e ρ' σ' a) a K.w

theorem code_sound (hm : P.follows .mixedOrders = true) (hE : ∀ n, SoundR P (runN T n) → SoundE P (callOf T (runN T n)))
    (hpure : ∀ n f fi, T f = some fi → fi.hint = .pure → ∀ args σ r σ', callOf T (runN T n) f args σ = some (r, σ') → σ' = σ) (n : Nat) :
    SoundR P (runN T n) ∧ ∀ (nt : Nat) (c : Code) (ρ : Env) (σ : St) (e : Ex) (ρ' : Env) (σ' : St), runN T n (.loop (trC P nt c)) ρ σ = some (e, ρ', σ') →
      ∀ (K : Ctx) (a : Act), Rel K σ → EnvR K nt ρ a → LoopWp P c (PostC K nt e ρ' σ' a) a K.w := by
  induction n with
  | zero => exact ⟨fun nt code ρ σ e ρ' σ' h => by simp [runN] at h, fun nt c ρ σ e ρ' σ' h => by simp [runN] at h⟩
  | succ n ih =>
    obtain ⟨ihR, ihL⟩ := ih
    have hEn := hE n ihR
    have loops : ∀ (nt : Nat) (c : Code) (ρ : Env) (σ : St) (e : Ex) (ρ' : Env) (σ' : St), runN T (n + 1) (.loop (trC P nt c)) ρ σ = some (e, ρ', σ') →
      ∀ (K : Ctx) (a : Act), Rel K σ → EnvR K nt ρ a → LoopWp P c (PostC K nt e ρ' σ' a) a K.w := by
      intro nt c ρ σ e ρ' σ' h K a hK hρ
      simp only [runN] at h
      split at h
      · rename_i ρ1 σ1 h1
        refine loop_round c _ a K.w (wp_mono (ihR nt c ρ σ _ ρ1 σ1 h1 K a hK hρ) fun ex a' w' hp => ?_)
        obtain ⟨hex, K', rfl, hs, hr, hen, hd⟩ := hp
        cases ex <;> simp only [exR] at hex
        simp only [Exit.then]
        intro b k cs
        obtain ⟨e2, a2, w2, hq, harr⟩ := ihL nt c ρ1 σ1 e ρ' σ' h K' a' hr hen b k cs
        exact ⟨e2, a2, w2, hq.mono hs hd, harr⟩
      · rename_i r hr
        have hne : e ≠ .normal := by
          rintro rfl
          exact hr _ _ h
        refine loop_round c _ a K.w (wp_mono (ihR nt c ρ σ e ρ' σ' h K a hK hρ) fun ex a' w' hp => ?_)
        cases ex <;> first | exact hp | (exfalso; have := hp.1; cases e <;> simp [exR] at this hne)
    refine ⟨?_, loops⟩
    intro nt code ρ σ e ρ' σ' h K a hK hρ
    have here : e = .normal → ρ' = ρ → σ' = σ → ∀ w', w' = K.w → PostC K nt e ρ' σ' a .normal a w' := by
      rintro rfl rfl rfl w' rfl
      exact ⟨trivial, K, rfl, Step.refl K, hK, hρ, rfl⟩
    cases code with
    | skip =>
      simp only [trC, runN, Option.some.injEq, Prod.mk.injEq] at h
      obtain ⟨rfl, rfl, rfl⟩ := h
      exact wp_skip (here rfl rfl rfl _ rfl)
    | region id ops draw =>
      simp only [trC] at h
      cases draw with
      | true =>
        simp only [if_true] at h
        split at h
        · rename_i hpo
          simp only [runN, Option.map_eq_some_iff, Prod.mk.injEq] at h
          obtain ⟨⟨ρ1, σ1⟩, hd, rfl, rfl, rfl⟩ := h
          exact draw_sound hEn (hpure n) hm hpo hK hρ hd fun K' a' h1 h2 h3 h4 => ⟨trivial, K', rfl, h1, h2, h3, h4⟩
        · simp [runN] at h
      | false =>
        simp only [Bool.false_eq_true, if_false, runN, Option.map_eq_some_iff, Prod.mk.injEq] at h
        obtain ⟨⟨ρ1, σ1⟩, hd, rfl, rfl, rfl⟩ := h
        refine wp_region ?_
        have := ops_sound (Q := PostC K nt .normal ρ1 σ1 a) hEn ops.toList 0 rfl hK hρ hd fun K' a' h1 h2 h3 h4 => ⟨trivial, K', rfl, h1, h2, h3, h4⟩
        rw [List.range_eq_range']
        simpa using this
    | seq x y =>
      simp only [trC, runN] at h
      split at h
      · rename_i ρ1 σ1 h1
        refine wp_seq (wp_mono (ihR nt x ρ σ _ ρ1 σ1 h1 K a hK hρ) fun ex a' w' hp => ?_)
        obtain ⟨hex, K', rfl, hs, hr, hen, hd⟩ := hp
        cases ex <;> simp only [exR] at hex
        exact wp_mono (ihR nt y ρ1 σ1 e ρ' σ' h K' a' hr hen) fun ex a2 w2 hq => hq.mono hs hd
      · rename_i r hr
        have hne : e ≠ .normal := by
          rintro rfl
          exact hr _ _ h
        refine wp_seq (wp_mono (ihR nt x ρ σ e ρ' σ' h K a hK hρ) fun ex a' w' hp => ?_)
        cases ex <;> first | exact hp | (exfalso; have := hp.1; cases e <;> simp [exR] at this hne)
    | cond x y z =>
      simp only [trC] at h
      split at h
      · rename_i x' hx
        simp only [runN] at h
        split at h <;> try simp only [reduceCtorEq] at h
        rename_i t heq
        have hv := arg_sound hρ hx
        rw [heq] at hv
        have e1 : a.eval x = .bool t := by generalize a.eval x = q at hv; cases hv; rfl
        cases t with
        | true => exact wp_cond_true e1 (ihR nt y ρ σ e ρ' σ' (by simpa using h) K a hK hρ)
        | false => exact wp_cond_false e1 (ihR nt z ρ σ e ρ' σ' (by simpa using h) K a hK hρ)
      · simp [runN] at h
    | block id c =>
      simp only [trC, runN] at h
      split at h
      · rename_i id' ρ1 σ1 h1
        refine wp_block (wp_mono (ihR nt c ρ σ _ ρ1 σ1 h1 K a hK hρ) fun ex a' w' hp => ?_)
        obtain ⟨hex, hrest⟩ := hp
        cases ex <;> simp only [exR] at hex
        subst hex
        simp only [Exit.inBlock]
        split at h
        · rename_i hid
          simp only [Option.some.injEq, Prod.mk.injEq] at h
          obtain ⟨rfl, rfl, rfl⟩ := h
          rw [if_pos hid]; exact ⟨trivial, hrest⟩
        · rename_i hid
          simp only [Option.some.injEq, Prod.mk.injEq] at h
          obtain ⟨rfl, rfl, rfl⟩ := h
          rw [if_neg hid]; exact ⟨rfl, hrest⟩
      · rename_i r hr
        have hne : ∀ j, e ≠ .exit j := by
          rintro j rfl
          exact hr _ _ _ h
        refine wp_block (wp_mono (ihR nt c ρ σ e ρ' σ' h K a hK hρ) fun ex a' w' hp => ?_)
        cases ex <;> first | exact hp | (exfalso; have := hp.1; cases e <;> simp [exR] at this hne)
    | loop c => exact loop_of c _ a K.w (loops nt c ρ σ e ρ' σ' h K a hK hρ)
    | exit id =>
      simp only [trC, runN, Option.some.injEq, Prod.mk.injEq] at h
      obtain ⟨rfl, rfl, rfl⟩ := h
      exact wp_exit ⟨rfl, K, rfl, Step.refl K, hK, hρ, rfl⟩
    | ret =>
      simp only [trC, runN, Option.some.injEq, Prod.mk.injEq] at h
      obtain ⟨rfl, rfl, rfl⟩ := h
      exact wp_ret ⟨trivial, K, rfl, Step.refl K, hK, hρ, rfl⟩
    | rangeFunc => simp [trC, runN] at h
    | scope => simp [trC, runN] at h
    | label => simp [trC, runN] at h
    | goto => simp [trC, runN] at h
    | refuse => simp [trC, runN] at h

/-! ### a function's body -/

def trRes (P : Program) (nt : Nat) : List ResultVar → Option (List RV)
  | [] => some []
  | .tmp t :: l => if t < nt then (trRes P nt l).map (.tmp t :: ·) else none
  | .cell x t :: l => if x < nt then (shapeOf P t).bind fun sh => (trRes P nt l).map (.cell x sh.1 sh.2 :: ·) else none

/-- What a function gives, whatever is in the heap. -/
def Known (P : Program) (f : FuncId) (g : List AV → Option AV) : Prop :=
  ∀ args r, g args = some r → ∀ (K : Ctx) (σ : St) (vargs : List Value), Rel K σ → VRs K args vargs → Calls P f vargs.toArray K.w (Came K σ r)

structure FnOk (P : Program) (f : FuncId) (fi : FnI) : Prop where
  known : ∀ g, fi.hint = .known g → Known P f g
  is : ∃ fn code, P.funcs[f]? = some fn ∧ fn.name ≠ "runtime.NumGoroutine" ∧ fn.body = some code ∧ trC P fi.nt code = fi.code ∧ fn.ntmps = fi.nt ∧ trRes P fi.nt fn.results.toList = some fi.res ∧ fi.np ≤ fi.nt

theorem FnOk.enters {f : FuncId} {fi : FnI} (h : FnOk P f fi) : Enters P f := by
  obtain ⟨fn, code, h1, h2, h3, _⟩ := h.is
  exact ⟨fn, h1, h2, by rw [h3]; simp⟩

def resM (a : Act) : ResultVar → Sem Value
  | .tmp t => Pure.pure (a.tmps.getD t undef)
  | .cell x t => do loadVar t (← asAddr (a.tmps.getD x undef))

theorem results_eq (fn : Func) (a : Act) : results fn a.tmps = (do let vs ← fn.results.mapM (resM a); Pure.pure (if h : vs.size = 1 then vs[0] else .tuple vs) : Sem Value) := by
  unfold results
  congr 1

theorem res_sound {K : Ctx} {σ : St} (hK : Rel K σ) {nt : Nat} {ρ : Env} {a : Act} (hρ : EnvR K nt ρ a) : ∀ {l : List ResultVar} {rs : List RV} {vs : List AV}, trRes P nt l = some rs → resultOf σ ρ rs = some vs →
    ∃ vals : List Value, (l.mapM (resM a)).run P K.w = .ok vals K.w ∧ VRs K vs vals
  | [], rs, vs, h1, h2 => by
    simp only [trRes, Option.some.injEq] at h1; subst h1
    simp only [resultOf, Option.some.injEq] at h2; subst h2
    exact ⟨[], rfl, VRs.nil K⟩
  | .tmp t :: l, rs, vs, h1, h2 => by
    simp only [trRes] at h1
    split at h1 <;> try simp only [Option.map_eq_some_iff, reduceCtorEq] at h1
    rename_i ht
    obtain ⟨rs', h1, rfl⟩ := h1
    simp only [resultOf, Option.map_eq_some_iff] at h2
    obtain ⟨vs', h2, rfl⟩ := h2
    obtain ⟨vals, q1, q2⟩ := res_sound hK hρ h1 h2
    refine ⟨a.tmps.getD t undef :: vals, ?_, VRs.cons (hρ.val t ht) q2⟩
    simp only [List.mapM_cons, resM, Sem.run_bind, Sem.run_pure, Result.andThen_ok, q1]
  | .cell x t :: l, rs, vs, h1, h2 => by
    simp only [trRes] at h1
    split at h1 <;> try simp only [Option.bind_eq_some_iff, Option.map_eq_some_iff, reduceCtorEq] at h1
    rename_i hx
    obtain ⟨sh, hsh, rs', h1, rfl⟩ := h1
    simp only [resultOf, Option.bind_eq_some_iff, Option.map_eq_some_iff] at h2
    obtain ⟨v, hv, vs', h2, rfl⟩ := h2
    obtain ⟨vals, q1, q2⟩ := res_sound hK hρ h1 h2
    have hval := hρ.val x hx
    obtain ⟨v', r1, r2⟩ := loadAt_sound (P := P) hK hval hv (t := t) hsh
    refine ⟨v' :: vals, ?_, VRs.cons r2 q2⟩
    have hptr : ∃ ad, a.tmps.getD x undef = .pointer (some ad) := by
      generalize a.tmps.getD x undef = q at hval
      generalize ρ x = y at hval hv
      cases hval <;> simp [loadAt] at hv <;> exact ⟨_, rfl⟩
    obtain ⟨ad, had⟩ := hptr
    rw [had] at r1
    simp only [Instr.loadAt, Instr.sureAddr, Sem.run_bind, Sem.run_pure, Result.andThen_ok] at r1
    simp only [List.mapM_cons, resM, had, Sem.run_bind, Sem.run_pure, Result.andThen_ok, asAddr, r1, q1]

theorem body_sound {R : Runner} (hR : SoundR P R) {f : FuncId} {fi : FnI} (hf : FnOk P f fi) {args : List AV} {σ σ' : St} {r : AV} (h : bodyOf R fi args σ = some (r, σ')) {K : Ctx} {vargs : List Value} (hK : Rel K σ) (hv : VRs K args vargs) :
    Calls P f vargs.toArray K.w (Came K σ' r) := by
  obtain ⟨fn, code, h1, h2, h3, h4, h5, h6, h7⟩ := hf.is
  unfold bodyOf at h
  split at h
  · rename_i hlen
    refine calls_of_wp h1 h3 ?_
    have hvl := hv.1
    have hρ : EnvR K fi.nt (initEnv args) { tmps := vargs.toArray ++ Array.replicate (fn.ntmps - vargs.toArray.size) undef, defers := [] } := by
      refine ⟨by simp; omega, fun t ht => ?_⟩
      simp only [initEnv, Array.getD_eq_getD_getElem?]
      by_cases htl : t < args.length
      · have := hv.2 t htl
        rw [Array.getElem?_append_left (by simp; omega)]
        simp only [List.getElem?_toArray, List.getD_eq_getElem?_getD, List.getElem?_eq_getElem htl, Option.getD_some]
        exact this
      · rw [Array.getElem?_append_right (by simp; omega)]
        have e1 : args.getD t (.tup []) = .tup [] := by simp [List.getD_eq_getElem?_getD, List.getElem?_eq_none (Nat.le_of_not_lt htl)]
        rw [e1]
        have : (Array.replicate (fn.ntmps - vargs.toArray.size) undef)[t - vargs.toArray.size]?.getD undef = undef := by
          cases hq : (Array.replicate (fn.ntmps - vargs.toArray.size) undef)[t - vargs.toArray.size]? with
          | none => rfl
          | some q => simp [Array.getElem?_replicate] at hq; simp [hq.2]
        rw [this]
        exact .tup #[] rfl (fun j hj => by simp at hj)
    have main : ∀ e ρ' , R fi.code (initEnv args) σ = some (e, ρ', σ') → (e = .normal ∨ e = .ret) → result σ' ρ' fi.res = some r →
        code.wp P (bodyPost P fn (Came K σ' r)) { tmps := vargs.toArray ++ Array.replicate (fn.ntmps - vargs.toArray.size) undef, defers := [] } K.w := by
      intro e ρ' hr he hres
      rw [← h4] at hr
      refine wp_mono (hR fi.nt code _ σ e ρ' σ' hr K _ hK hρ) fun ex a' w' hp => ?_
      obtain ⟨hex, K', rfl, hs, hrel, hen, hd⟩ := hp
      have out : a'.defers = [] ∧ ∃ v, (results fn a'.tmps).run P K'.w = .ok v K'.w ∧ Came K σ' r (.returned v) K'.w := by
        refine ⟨hd, ?_⟩
        unfold result at hres
        have key : ∀ vs, resultOf σ' ρ' fi.res = some vs → ∃ vals : List Value, VRs K' vs vals ∧ (results fn a'.tmps).run P K'.w = .ok (if h : vals.toArray.size = 1 then vals.toArray[0] else .tuple vals.toArray) K'.w := by
          intro vs hvs
          obtain ⟨vals, q1, q2⟩ := res_sound (P := P) hrel hen h6 hvs
          refine ⟨vals, q2, ?_⟩
          rw [results_eq, Sem.run_bind, Array.mapM_eq_mapM_toList, Sem.run_map, q1]
          rfl
        split at hres
        · rename_i v hv1
          simp only [Option.some.injEq] at hres; subst hres
          obtain ⟨vals, q1, q2⟩ := key _ hv1
          have hl1 : vals.length = 1 := by simpa using q1.1
          match vals, hl1 with
          | [v'], _ =>
            refine ⟨v', by simpa using q2, v', K', rfl, rfl, hs, hrel, ?_⟩
            exact q1.2 0 (by simp)
        · rename_i vs hne hv1
          simp only [Option.some.injEq] at hres; subst hres
          obtain ⟨vals, q1, q2⟩ := key _ hv1
          have hl1 : vals.toArray.size ≠ 1 := by
            intro e1
            have : vs.length = 1 := by rw [← q1.1]; simpa using e1
            match vs, this with
            | [v], _ => exact hne v rfl
          rw [dif_neg hl1] at q2
          refine ⟨_, q2, _, K', rfl, rfl, hs, hrel, ?_⟩
          exact .tup vals.toArray (by simpa using q1.1) fun j hj => by simpa using q1.2 j hj
        · simp at hres
      cases ex <;> rcases he with rfl | rfl <;> simp only [exR] at hex <;> exact out
    split at h
    · rename_i ρ' σ1 hr
      simp only [Option.map_eq_some_iff, Prod.mk.injEq] at h
      obtain ⟨v, hv1, rfl, rfl⟩ := h
      exact main _ _ hr (.inl rfl) hv1
    · rename_i ρ' σ1 hr
      simp only [Option.map_eq_some_iff, Prod.mk.injEq] at h
      obtain ⟨v, hv1, rfl, rfl⟩ := h
      exact main _ _ hr (.inr rfl) hv1
    · simp at h
  · simp at h

end
end Go.Vm
