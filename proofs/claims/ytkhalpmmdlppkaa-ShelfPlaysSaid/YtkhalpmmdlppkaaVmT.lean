/-
  THE GENERIC LAYER 'Vm', part T: calls as one; runs without a bound on their rounds, and the equations that they meet.
-/
import Derived.Test.YtkhalpmmdlppkaaVmS
namespace Go.Vm
open Classical

section
variable {P : Program} {T : Table}

theorem fnOf_sound (hT : ∀ f fi, T f = some fi → FnOk P f fi) {R : Runner} (hR : SoundR P R) : ∀ f args σ r σ', fnOf T R f args σ = some (r, σ') → Enters P f ∧ ∀ K vargs, K.tr = trF P → Rel K σ → VRs K args vargs → Calls P f vargs.toArray K.w (Came K σ' r) := by
  intro f args σ r σ' h
  unfold fnOf at h
  split at h
  · simp at h
  · rename_i fi hfi
    refine ⟨(hT f fi hfi).enters, fun K vargs hKt hK hv => ?_⟩
    split at h
    · exact body_sound hR (hT f fi hfi) h hKt hK hv
    · simp only [Option.bind_eq_some_iff, Option.map_eq_some_iff, Prod.mk.injEq] at h
      obtain ⟨args', h1, r', h2, rfl, rfl⟩ := h
      exact pure_sound hR (hT f fi hfi) h1 h2 hKt hK hv
    · exact mut_sound hR (hT f fi hfi) h hKt hK hv
    · rename_i g hg
      simp only [Option.map_eq_some_iff, Prod.mk.injEq] at h
      obtain ⟨r', h1, rfl, rfl⟩ := h
      exact (hT f fi hfi).known g hg args r' h1 K σ vargs hKt hK hv

theorem callOf_pure {R : Runner} : ∀ f fi, T f = some fi → fi.hint = .pure → ∀ args σ r σ', callOf T R f args σ = some (r, σ') → σ' = σ := by
  intro f fi hf hh args σ r σ' h
  change fnOf T R f args σ = _ at h
  unfold fnOf at h
  rw [hf] at h
  simp only [hh, Option.bind_eq_some_iff, Option.map_eq_some_iff, Prod.mk.injEq] at h
  obtain ⟨_, _, _, _, _, rfl⟩ := h
  rfl

/-! ### a round -/

theorem getD_setU {tmps : Array Value} {t u : Nat} {v : Value} (ht : t < tmps.size) : (tmps.setIfInBounds t v).getD u undef = if u = t then v else tmps.getD u undef := by
  simp only [Array.getD_eq_getD_getElem?, Array.getElem?_setIfInBounds]
  by_cases h : t = u
  · subst h; simp [ht]
  · simp [h, Ne.symm h]

theorem putAll_env {K : Ctx} {nt : Nat} : ∀ (ps : List Nat) (args : List AV) (vargs : List Value) (ρ : Env) (tmps : Array Value), VRs K args vargs → args.length = ps.length → ps.all (fun t => decide (t < nt)) = true → tmps.size = nt → (∀ t, t < nt → VR K (ρ t) (tmps.getD t undef)) →
    ((ps.zip vargs).foldl (fun tmps (p : Nat × Value) => tmps.setIfInBounds p.1 p.2) tmps).size = nt ∧ ∀ t, t < nt → VR K (putAll ρ ps args t) (((ps.zip vargs).foldl (fun tmps (p : Nat × Value) => tmps.setIfInBounds p.1 p.2) tmps).getD t undef)
  | [], args, vargs, ρ, tmps, _, _, _, hs, hv => by
    have : putAll ρ [] args = ρ := by cases args <;> rfl
    rw [this]; exact ⟨hs, hv⟩
  | p :: ps, [], vargs, ρ, tmps, _, hl, _, _, _ => by simp at hl
  | p :: ps, a :: args, [], ρ, tmps, h, _, _, _, _ => by simp [VRs] at h
  | p :: ps, a :: args, v :: vargs, ρ, tmps, h, hl, hp, hs, hv => by
    simp only [List.all_cons, Bool.and_eq_true, decide_eq_true_eq] at hp
    simp only [List.zip_cons_cons, List.foldl_cons, putAll]
    refine putAll_env ps args vargs _ _ (by simpa using h.drop 1) (by simpa using hl) hp.2 (by simpa using hs) fun t ht => ?_
    rw [getD_setU (by omega)]
    by_cases e : t = p
    · rw [if_pos e, if_pos e]; exact h.2 0 (Nat.zero_lt_succ _)
    · rw [if_neg e, if_neg e]; exact hv t ht

theorem roundOf_sound {R : Runner} (hR : SoundR P R) : ∀ i args σ r σ', roundOf R i args σ = some (r, σ') → ∀ K vargs l, K.tr = trF P → Rel K σ → VRs K args vargs → K.bd i → (∀ b d, K.mu i = some (b, d) → l = b) → Rounds P l vargs K.w (Came K σ' r) := by
  intro i args σ r σ' h K vargs l hKt hK hv hbd hl
  unfold roundOf at h
  split at h
  · rename_i nt pd ρ ps as body hh
    split at h
    · rename_i hc
      obtain ⟨b, d, hm, rc, r1, r2, r3, r4, r5, r6, r7, r8⟩ := hK.blk i _ hh
      obtain rfl := hl b d hm
      have hvl := hv.1
      have hpl : rc.params.size = ps.length := by rw [← r4]; simp
      refine ⟨rc, r1, by simp; omega, fun ro => roundIn_of_wpIn trivial ?_⟩
      have hfold : (rc.params.zip vargs.toArray).foldl (fun tmps (t, a) => tmps.setIfInBounds t a) rc.tmps = (ps.zip vargs).foldl (fun tmps (p : Nat × Value) => tmps.setIfInBounds p.1 p.2) rc.tmps := by
        rw [← Array.foldl_toList, Array.toList_zip, r4]
      rw [hfold]
      have hen := putAll_env ps args vargs ρ rc.tmps hv hc.1 hc.2 r5 r6
      generalize (ps.zip vargs).foldl (fun tmps (p : Nat × Value) => tmps.setIfInBounds p.1 p.2) rc.tmps = tmps at hen
      split at h <;> try simp only [reduceCtorEq] at h
      rename_i ρ2 σ2 h1
      split at h <;> try simp only [reduceCtorEq] at h
      rename_i nt2 pd2 ρq ps2 as2 body2 hh2
      split at h <;> try simp only [reduceCtorEq] at h
      rename_i e ρ4 σ4 h2
      split at h <;> try simp only [reduceCtorEq] at h
      rename_i nt4 st4 pd4 ρp ps4 as4 body4 hh4
      rw [hKt] at r7 r8
      rw [← r7] at h1
      rw [← r8] at h2
      refine wpIn_mono (hR (some l) false nt rc.assign _ σ _ ρ2 σ2 (fun h => by cases h) h1 K { tmps := tmps, defers := [] } hKt hK ⟨hen.1, hen.2⟩) fun ex a' w' hp => ?_
      obtain ⟨hex, K', Ds, rfl, hs, hrel, hen2, _, _⟩ := hp
      cases ex <;> simp only [exR] at hex
      simp only [Exit.then]
      obtain ⟨b', d', hm', rc2, t1, t2, t3, t4, t5, t6, t7, t8⟩ := hrel.blk i _ hh2
      have hb' := hs.ext.mu i hbd _ hm'
      rw [hm] at hb'
      simp only [Option.some.injEq, Prod.mk.injEq] at hb'
      obtain ⟨rfl, rfl⟩ := hb'
      obtain ⟨K2, k1, k2, k3, k4, k5⟩ := setLoop_sound hrel hh2 hm' (.loop { rc2 with state := .busy }) (some (.loop nt2 .busy pd2 ρq ps2 as2 body2)) (fun K'' he hw y hy => by
        simp only [Option.some.injEq] at hy; subst hy
        exact ⟨{ rc2 with state := .busy }, by rw [hw]; exact World.putObj_heap_same (Array.getElem?_eq_some_iff.1 t1).1, rfl, t3, t4, t5, fun t ht => (t6 t ht).ext he, by rw [he.tr]; exact t7, by rw [he.tr]; exact t8⟩)
      refine ⟨K2.w, by rw [k1]; exact run_beginRound t1 t2, ?_⟩
      have hS2 : Step K K2 := hs.trans k2
      refine wpIn_mono (hR (some l) false nt rc.body ρ2 _ e ρ4 σ4 (fun h => by cases h) h2 K2 a' (hS2.ext.tr.trans hKt) k3 (hen2.ext k2.ext)) fun ex a4 w4 hp => ?_
      obtain ⟨hex, K4, Ds4, rfl, hs4, hrel4, _, _, _⟩ := hp
      have hS4 : Step K K4 := hS2.trans hs4
      obtain ⟨b4, d4, hm4, rc4, u1, u2, u3, u4, u5, u6, u7, u8⟩ := hrel4.blk i _ hh4
      have hb4 := hS4.ext.mu i hbd _ hm4
      rw [hm] at hb4
      simp only [Option.some.injEq, Prod.mk.injEq] at hb4
      obtain ⟨rfl, rfl⟩ := hb4
      have fin : ∀ (jump : Option Code) (st : LoopState) (pd : Option Ex), (if jump.isNone then LoopState.ready else .done) = st → PdR pd jump → r = .bool jump.isNone → σ' = σ4.set i (some (.loop nt4 st pd ρp ps4 as4 body4)) →
          ∃ v w', (Instr.endRound l jump).run P K4.w = .ok v w' ∧ Came K σ' r (.returned v) w' := by
        intro jump st pd hst hpd hr hσ
        obtain ⟨K5, q1, q2, q3, _, _⟩ := setLoop_sound hrel4 hh4 hm4 (.loop { rc4 with state := if jump.isNone then .ready else .done, pending := jump }) (some (.loop nt4 st pd ρp ps4 as4 body4)) (fun K'' he hw y hy => by
          simp only [Option.some.injEq] at hy; subst hy
          exact ⟨{ rc4 with state := if jump.isNone then .ready else .done, pending := jump }, by rw [hw]; exact World.putObj_heap_same (Array.getElem?_eq_some_iff.1 u1).1, hst, hpd, u4, u5, fun t ht => (u6 t ht).ext he, by rw [he.tr]; exact u7, by rw [he.tr]; exact u8⟩)
        refine ⟨.bool jump.isNone, K5.w, by rw [q1]; exact run_endRound jump u1, _, K5, rfl, rfl, hS4.trans q2, by rw [hσ]; exact q3, by rw [hr]; exact .bool _⟩
      cases e <;> cases ex <;> simp only [exR] at hex <;> simp only [Option.some.injEq, Prod.mk.injEq] at h <;> obtain ⟨h3, h4⟩ := h
      · exact fin none .ready none rfl trivial h3.symm h4.symm
      · subst hex
        exact fin (some (.exit _)) .done (some (.exit _)) rfl rfl h3.symm h4.symm
      · exact fin (some .ret) .done (some .ret) rfl trivial h3.symm h4.symm
    · simp at h
  · simp at h

theorem callOf_sound (hT : ∀ f fi, T f = some fi → FnOk P f fi) {R : Runner} (hR : SoundR P R) : SoundE P (callOf T R) := ⟨fnOf_sound hT hR, roundOf_sound hR⟩

theorem sound_n (hm : P.follows .mixedOrders = true) (hT : ∀ f fi, T f = some fi → FnOk P f fi) (n : Nat) : SoundR P (runN T n) :=
  (code_sound hm (fun _ h => callOf_sound hT h) (fun _ => callOf_pure) n).1
end

/-! ### more rounds, the same answers -/

def RLe (R R' : Runner) : Prop := ∀ c ρ σ r, R c ρ σ = some r → R' c ρ σ = some r
structure ELe (E E' : CallH) : Prop where
  fn : ∀ f as σ r, E f as σ = some r → E' f as σ = some r
  yl : ∀ i as σ r, E.yl i as σ = some r → E'.yl i as σ = some r

theorem body_mono {R R' : Runner} (h : RLe R R') {fi : FnI} {args : List AV} {σ : St} {r : AV × St} (hb : bodyOf R fi args σ = some r) : bodyOf R' fi args σ = some r := by
  unfold bodyOf at hb ⊢
  split at hb
  · rename_i hl
    rw [if_pos hl]
    split at hb
    · rename_i ρ σ' hr; rw [h _ _ _ _ hr]; exact hb
    · rename_i ρ σ' hr; rw [h _ _ _ _ hr]; exact hb
    · simp at hb
  · simp at hb

theorem round_mono {R R' : Runner} (h : RLe R R') (i : Id) (as : List AV) (σ : St) (r : AV × St) (hc : roundOf R i as σ = some r) : roundOf R' i as σ = some r := by
  unfold roundOf at hc ⊢
  split at hc
  · rename_i nt pd ρ ps a b hh
    split at hc
    · rename_i hl
      rw [if_pos hl]
      split at hc
      · rename_i ρ2 σ2 h1
        rw [h _ _ _ _ h1]
        simp only
        split at hc
        · rename_i nt2 pd2 ρ2 ps2 a2 b2 hh2
          split at hc
          · rename_i e ρ4 σ4 h2
            rw [h _ _ _ _ h2]; exact hc
          · simp at hc
        · simp at hc
      · simp at hc
    · simp at hc
  · simp at hc

theorem call_mono {T : Table} {R R' : Runner} (h : RLe R R') : ELe (callOf T R) (callOf T R') := by
  refine ⟨fun f as σ r hc => ?_, round_mono h⟩
  change fnOf T R f as σ = _ at hc
  change fnOf T R' f as σ = _
  unfold fnOf at hc ⊢
  split at hc
  · simp at hc
  · rename_i fi hfi
    split at hc
    · exact body_mono h hc
    · simp only [Option.bind_eq_some_iff, Option.map_eq_some_iff] at hc ⊢
      obtain ⟨as', h1, r', h2, rfl⟩ := hc
      refine ⟨as', h1, r', ?_, rfl⟩
      unfold pureOf at h2 ⊢
      split at h2
      · rename_i r0 σ1 hb; rw [body_mono h hb]; exact h2
      · simp at h2
    · rename_i fp new hh
      unfold mutOf at hc ⊢
      simp only [Option.bind_eq_some_iff] at hc ⊢
      obtain ⟨O, h1, as', h3, b, h2, rest⟩ := hc
      exact ⟨O, h1, as', h3, b, body_mono h h2, rest⟩
    · exact hc

theorem ins_mono {E E' : CallH} (h : ELe E E') {ρ : Env} {σ : St} {i : Ins} {r : AV × St} (hi : i.ev E ρ σ = some r) : i.ev E' ρ σ = some r := by
  cases i
  case call f as => exact h.fn _ _ _ _ hi
  case callV x as =>
    simp only [Ins.ev] at hi ⊢
    split at hi
    · exact h.fn _ _ _ _ hi
    · exact h.yl _ _ _ _ hi
    · simp at hi
  case invoke tbl x as =>
    simp only [Ins.ev] at hi ⊢
    split at hi
    · split at hi
      · simp only [Option.bind_eq_some_iff] at hi ⊢
        obtain ⟨q, h1, h2⟩ := hi
        exact ⟨q, h1, h.fn _ _ _ _ h2⟩
      · simp at hi
    · simp at hi
  all_goals exact hi

theorem op_mono {E E' : CallH} (h : ELe E E') {o : Op} {ρ : Env} {σ : St} {r : Env × St} (ho : o.ev E ρ σ = some r) : o.ev E' ρ σ = some r := by
  unfold Op.ev at ho ⊢
  split at ho
  · rename_i hw
    rw [if_pos hw]
    simp only [Option.map_eq_some_iff] at ho ⊢
    obtain ⟨q, h1, h2⟩ := ho
    exact ⟨q, ins_mono h h1, h2⟩
  · rename_i hw; rw [if_neg hw]; exact ho

theorem ops_mono {E E' : CallH} (h : ELe E E') : ∀ {l : List Op} {ρ : Env} {σ : St} {r : Env × St}, opsEv E l ρ σ = some r → opsEv E' l ρ σ = some r
  | [], _, _, _, ho => ho
  | o :: l, ρ, σ, r, ho => by
    simp only [opsEv] at ho ⊢
    split at ho
    · rename_i ρ1 σ1 h1; rw [op_mono h h1]; exact ops_mono h ho
    · simp at ho

theorem trace_mono {E E' : CallH} (h : ELe E E') : ∀ {l : List DOp} {ρ : Env} {σ : St} {r : List Tr × Env × St}, trace E l ρ σ = some r → trace E' l ρ σ = some r
  | [], _, _, _, ho => ho
  | o :: l, ρ, σ, r, ho => by
    simp only [trace] at ho ⊢
    split at ho
    · rename_i hw
      rw [if_pos hw]
      split at ho
      · rename_i v σ1 h1
        rw [ins_mono h h1]
        simp only
        split at ho
        · rename_i ts r' h2; rw [trace_mono h h2]; exact ho
        · simp at ho
      · simp at ho
    · rename_i hw
      rw [if_neg hw]
      split at ho
      · rename_i ts r' h2; rw [trace_mono h h2]; exact ho
      · simp at ho

theorem draw_mono {E E' : CallH} {T : Table} (h : ELe E E') {l : List DOp} {ρ : Env} {σ : St} {r : Env × St} (ho : drawEv E T l ρ σ = some r) : drawEv E' T l ρ σ = some r := by
  unfold drawEv at ho ⊢
  split at ho
  · rename_i ts ρ' σ' ht
    rw [trace_mono h ht]
    simp only
    split at ho
    · rename_i hc
      rw [if_pos ⟨hc.1, fun i o t h1 h2 h3 h4 h5 k s h6 h7 => ins_mono h (hc.2 i o t h1 h2 h3 h4 h5 k s h6 h7)⟩]; exact ho
    · simp at ho
  · simp at ho

theorem run_mono {T : Table} : ∀ n, RLe (runN T n) (runN T (n + 1)) := by
  intro n
  induction n with
  | zero => intro c ρ σ r h; simp [runN] at h
  | succ n ih =>
    have hE := call_mono (T := T) ih
    intro c ρ σ r h
    cases c with
    | skip => exact h
    | ops l => simp only [runN, Option.map_eq_some_iff] at h ⊢; obtain ⟨q, h1, h2⟩ := h; exact ⟨q, ops_mono hE h1, h2⟩
    | draw l => simp only [runN, Option.map_eq_some_iff] at h ⊢; obtain ⟨q, h1, h2⟩ := h; exact ⟨q, draw_mono hE h1, h2⟩
    | seq a b =>
      rw [runN] at h ⊢
      split at h
      · rename_i ρ' σ' h1; rw [ih _ _ _ _ h1]; exact ih _ _ _ _ h
      · rename_i hne; have := ih _ _ _ _ h; rw [this]; cases r with | mk e r => cases e <;> first | rfl | exact absurd h (hne _ _)
    | cond x a b =>
      rw [runN] at h ⊢
      split at h
      · split at h
        · rename_i e; rw [if_pos e]; exact ih _ _ _ _ h
        · rename_i e; rw [if_neg e]; exact ih _ _ _ _ h
      · simp at h
    | block id c =>
      rw [runN] at h ⊢
      split at h
      · rename_i id' ρ' σ' h1; rw [ih _ _ _ _ h1]; exact h
      · rename_i hne; have := ih _ _ _ _ h; rw [this]; cases r with | mk e r => cases e <;> first | rfl | exact absurd h (hne _ _ _)
    | loop c =>
      rw [runN] at h ⊢
      split at h
      · rename_i ρ' σ' h1; rw [ih _ _ _ _ h1]; exact ih _ _ _ _ h
      · rename_i hne; have := ih _ _ _ _ h; rw [this]; cases r with | mk e r => cases e <;> first | rfl | exact absurd h (hne _ _)
    | rangeF x ps a b nt =>
      rw [runN] at h ⊢
      split at h
      · rename_i f first capt hx
        obtain ⟨e, ρ', σ'⟩ := r
        obtain ⟨q, σ2, _, _, _, _, _, _, _, hq, _⟩ := loopEnd_some h
        rw [hq] at h
        rw [hE.fn _ _ _ _ hq]; exact h
      · simp at h
    | exit id => exact h
    | ret => exact h
    | no => simp [runN] at h

theorem run_le {T : Table} {n m : Nat} (h : n ≤ m) : RLe (runN T n) (runN T m) := by
  induction h with
  | refl => exact fun _ _ _ _ h => h
  | step _ ih => exact fun c ρ σ r h => run_mono _ _ _ _ _ (ih c ρ σ r h)

/-- A run without a bound. -/
noncomputable def run (T : Table) : Runner := fun c ρ σ => if h : ∃ r, ∃ n, runN T n c ρ σ = some r then some h.choose else none

theorem run_iff {T : Table} {c : C} {ρ : Env} {σ : St} {r : Ex × Env × St} : run T c ρ σ = some r ↔ ∃ n, runN T n c ρ σ = some r := by
  unfold run
  constructor
  · intro h
    split at h
    · rename_i hex
      simp only [Option.some.injEq] at h
      rw [← h]; exact hex.choose_spec
    · simp at h
  · rintro ⟨n, h⟩
    have hex : ∃ r, ∃ n, runN T n c ρ σ = some r := ⟨r, n, h⟩
    rw [dif_pos hex]
    obtain ⟨m, hm⟩ := hex.choose_spec
    have h1 := run_le (Nat.le_max_left n m) _ _ _ _ h
    have h2 := run_le (Nat.le_max_right n m) _ _ _ _ hm
    rw [h1] at h2
    simpa using h2.symm

theorem run_of {T : Table} (n : Nat) : RLe (runN T n) (run T) := fun _ _ _ _ h => run_iff.2 ⟨n, h⟩

/-- A call. -/
noncomputable def ev (T : Table) : CallH := callOf T (run T)

theorem body_fin {T : Table} {fi : FnI} {args : List AV} {σ : St} {r : AV × St} (h : bodyOf (run T) fi args σ = some r) : ∃ n, bodyOf (runN T n) fi args σ = some r := by
  unfold bodyOf at h
  split at h
  · rename_i hl
    split at h
    · rename_i ρ σ' hr
      obtain ⟨n, hn⟩ := run_iff.1 hr
      refine ⟨n, ?_⟩
      unfold bodyOf; rw [if_pos hl, hn]; exact h
    · rename_i ρ σ' hr
      obtain ⟨n, hn⟩ := run_iff.1 hr
      refine ⟨n, ?_⟩
      unfold bodyOf; rw [if_pos hl, hn]; exact h
    · simp at h
  · simp at h

theorem round_fin {T : Table} {i : Id} {as : List AV} {σ : St} {r : AV × St} (h : roundOf (run T) i as σ = some r) : ∃ n, roundOf (runN T n) i as σ = some r := by
  unfold roundOf at h
  split at h
  · rename_i nt pd ρ ps a b hh
    split at h
    · rename_i hl
      split at h
      · rename_i ρ2 σ2 h1
        split at h
        · rename_i nt2 pd2 r2 ps2 a2 b2 hh2
          split at h
          · rename_i e ρ4 σ4 h2
            obtain ⟨n, hn⟩ := run_iff.1 h1
            obtain ⟨m, hm⟩ := run_iff.1 h2
            refine ⟨max n m, ?_⟩
            simp only [roundOf, hh]
            rw [if_pos hl, run_le (Nat.le_max_left n m) _ _ _ _ hn]
            simp only [hh2]
            rw [run_le (Nat.le_max_right n m) _ _ _ _ hm]; exact h
          · simp at h
        · simp at h
      · simp at h
    · simp at h
  · simp at h

theorem call_fin {T : Table} {f : FuncId} {as : List AV} {σ : St} {r : AV × St} (h : ev T f as σ = some r) : ∃ n, callOf T (runN T n) f as σ = some r := by
  change fnOf T (run T) f as σ = _ at h
  change ∃ n, fnOf T (runN T n) f as σ = _
  unfold fnOf at h
  split at h
  · simp at h
  · rename_i fi hfi
    split at h
    · rename_i hh
      obtain ⟨n, hn⟩ := body_fin h
      exact ⟨n, by simp only [fnOf, hfi, hh]; exact hn⟩
    · rename_i hh
      simp only [Option.bind_eq_some_iff, Option.map_eq_some_iff] at h
      obtain ⟨as', h1, r', h2, rfl⟩ := h
      unfold pureOf at h2
      split at h2
      · rename_i r0 σ1 hb
        obtain ⟨n, hn⟩ := body_fin hb
        exact ⟨n, by simp only [fnOf, hfi, hh, h1, Option.bind_some, pureOf, hn, h2, Option.map_some]⟩
      · simp at h2
    · rename_i fp new hh
      unfold mutOf at h
      simp only [Option.bind_eq_some_iff] at h
      obtain ⟨O, h1, as', h3, b, h2, rest⟩ := h
      obtain ⟨n, hn⟩ := body_fin h2
      exact ⟨n, by simp only [fnOf, hfi, hh, mutOf, Option.bind_eq_some_iff]; exact ⟨O, h1, as', h3, b, hn, rest⟩⟩
    · rename_i g hg
      exact ⟨0, by simp only [fnOf, hfi, hg]; exact h⟩

theorem ev_of {T : Table} (n : Nat) : ELe (callOf T (runN T n)) (ev T) := call_mono (run_of n)
theorem call_le {T : Table} {n m : Nat} (h : n ≤ m) : ELe (callOf T (runN T n)) (callOf T (runN T m)) := call_mono (run_le h)

theorem ins_fin {T : Table} {ρ : Env} {σ : St} {i : Ins} {r : AV × St} (h : i.ev (ev T) ρ σ = some r) : ∃ n, i.ev (callOf T (runN T n)) ρ σ = some r := by
  cases i
  case call f as => exact call_fin h
  case callV x as =>
    simp only [Ins.ev] at h ⊢
    split at h
    · exact call_fin h
    · exact round_fin h
    · simp at h
  case invoke tbl x as =>
    simp only [Ins.ev] at h ⊢
    split at h
    · split at h
      · simp only [Option.bind_eq_some_iff] at h ⊢
        obtain ⟨q, h1, h2⟩ := h
        obtain ⟨n, hn⟩ := call_fin h2
        exact ⟨n, q, h1, hn⟩
      · simp at h
    · simp at h
  all_goals exact ⟨0, h⟩

theorem op_fin {T : Table} {o : Op} {ρ : Env} {σ : St} {r : Env × St} (h : o.ev (ev T) ρ σ = some r) : ∃ n, o.ev (callOf T (runN T n)) ρ σ = some r := by
  unfold Op.ev at h
  split at h
  · rename_i hw
    simp only [Option.map_eq_some_iff] at h
    obtain ⟨q, h1, h2⟩ := h
    obtain ⟨n, hn⟩ := ins_fin h1
    exact ⟨n, by unfold Op.ev; rw [if_pos hw, hn, ← h2]; rfl⟩
  · rename_i hw
    exact ⟨0, by unfold Op.ev; rw [if_neg hw]; exact h⟩

theorem ops_fin {T : Table} : ∀ {l : List Op} {ρ : Env} {σ : St} {r : Env × St}, opsEv (ev T) l ρ σ = some r → ∃ n, opsEv (callOf T (runN T n)) l ρ σ = some r
  | [], _, _, _, h => ⟨0, h⟩
  | o :: l, ρ, σ, r, h => by
    simp only [opsEv] at h ⊢
    split at h
    · rename_i ρ1 σ1 h1
      obtain ⟨n, hn⟩ := op_fin h1
      obtain ⟨m, hm⟩ := ops_fin h
      refine ⟨max n m, ?_⟩
      rw [op_mono (call_le (Nat.le_max_left n m)) hn]
      exact ops_mono (call_le (Nat.le_max_right n m)) hm
    · simp at h

theorem trace_fin {T : Table} : ∀ {l : List DOp} {ρ : Env} {σ : St} {r : List Tr × Env × St}, trace (ev T) l ρ σ = some r → ∃ n, trace (callOf T (runN T n)) l ρ σ = some r
  | [], _, _, _, h => ⟨0, h⟩
  | o :: l, ρ, σ, r, h => by
    simp only [trace] at h
    split at h
    · rename_i hw
      split at h
      · rename_i v σ1 h1
        obtain ⟨n, hn⟩ := ins_fin h1
        split at h
        · rename_i ts r' h2
          obtain ⟨m, hm⟩ := trace_fin h2
          refine ⟨max n m, ?_⟩
          rw [trace, if_pos hw, ins_mono (call_le (Nat.le_max_left n m)) hn]
          simp only
          rw [trace_mono (call_le (Nat.le_max_right n m)) hm]; exact h
        · simp at h
      · simp at h
    · rename_i hw
      split at h
      · rename_i ts r' h2
        obtain ⟨m, hm⟩ := trace_fin h2
        exact ⟨m, by rw [trace, if_neg hw, hm]; exact h⟩
      · simp at h

/-- Finitely many facts, each from some round on. -/
theorem all_fin {p : Nat → Nat → Prop} (hm : ∀ i n m, n ≤ m → p i n → p i m) : ∀ k, (∀ i, i < k → ∃ n, p i n) → ∃ n, ∀ i, i < k → p i n
  | 0, _ => ⟨0, fun i h => by omega⟩
  | k + 1, h => by
    obtain ⟨n, hn⟩ := all_fin hm k fun i hi => h i (by omega)
    obtain ⟨m, hm2⟩ := h k (by omega)
    refine ⟨max n m, fun i hi => ?_⟩
    by_cases e : i = k
    · subst e; exact hm _ _ _ (Nat.le_max_right n m) hm2
    · exact hm _ _ _ (Nat.le_max_left n m) (hn i (by omega))

theorem draw_fin {T : Table} {l : List DOp} {ρ : Env} {σ : St} {r : Env × St} (h : drawEv (ev T) T l ρ σ = some r) : ∃ n, drawEv (callOf T (runN T n)) T l ρ σ = some r := by
  unfold drawEv at h
  split at h
  · rename_i ts ρ' σ' ht
    split at h
    · rename_i hc
      obtain ⟨n, hn⟩ := trace_fin ht
      have hlk : ∃ n, ∀ i, i < l.length → ∀ o t, l[i]? = some o → ts[i]? = some t → o.op.ins.look T = true → o.op.ins.still = false → wanted t.ρ o.op.guard = true →
          ∀ k s, (if k = l.length then some σ' else (ts[k]?).map Tr.σ) = some s → mayAt T l i k = true → o.op.ins.ev (callOf T (runN T n)) t.ρ s = some (t.v, s) := by
        refine all_fin (fun i n m hnm hp o t h1 h2 h3 h4 h5 k s h6 h7 => ins_mono (call_le hnm) (hp o t h1 h2 h3 h4 h5 k s h6 h7)) l.length fun i hi => ?_
        have ho : l[i]? = some l[i] := List.getElem?_eq_getElem hi
        have hlen := (trace_env _ _ _ _ _ _ ht).1
        have hti : i < ts.length := by omega
        have htt : ts[i]? = some ts[i] := List.getElem?_eq_getElem hti
        by_cases hq : l[i].op.ins.look T = true ∧ l[i].op.ins.still = false ∧ wanted ts[i].ρ l[i].op.guard = true
        · have hk : ∃ n, ∀ k, k < l.length + 1 → ∀ s, (if k = l.length then some σ' else (ts[k]?).map Tr.σ) = some s → mayAt T l i k = true → l[i].op.ins.ev (callOf T (runN T n)) ts[i].ρ s = some (ts[i].v, s) := by
            refine all_fin (fun k n m hnm hp s h6 h7 => ins_mono (call_le hnm) (hp s h6 h7)) (l.length + 1) fun k hk => ?_
            cases hs : (if k = l.length then some σ' else (ts[k]?).map Tr.σ) with
            | none => exact ⟨0, fun s h => by simp at h⟩
            | some s =>
              by_cases hmay : mayAt T l i k = true
              · obtain ⟨n, hn⟩ := ins_fin (hc.2 i _ _ ho htt hq.1 hq.2.1 hq.2.2 k s hs hmay)
                exact ⟨n, fun s' hs' _ => by simp only [Option.some.injEq] at hs'; subst hs'; exact hn⟩
              · exact ⟨0, fun _ _ h => absurd h hmay⟩
          obtain ⟨n, hn⟩ := hk
          refine ⟨n, fun o t h1 h2 h3 h4 h5 k s h6 h7 => ?_⟩
          rw [ho] at h1; simp only [Option.some.injEq] at h1; subst h1
          rw [htt] at h2; simp only [Option.some.injEq] at h2; subst h2
          refine hn k ?_ s h6 h7
          rcases Nat.lt_or_ge k (l.length + 1) with h8 | h8
          · exact h8
          · rw [if_neg (by omega), List.getElem?_eq_none (by omega)] at h6; simp at h6
        · refine ⟨0, fun o t h1 h2 h3 h4 h5 => ?_⟩
          rw [ho] at h1; simp only [Option.some.injEq] at h1; subst h1
          rw [htt] at h2; simp only [Option.some.injEq] at h2; subst h2
          exact absurd ⟨h3, h4, h5⟩ hq
      obtain ⟨m, hm⟩ := hlk
      refine ⟨max n m, ?_⟩
      unfold drawEv
      rw [trace_mono (call_le (Nat.le_max_left n m)) hn]
      simp only
      rw [if_pos ⟨hc.1, fun i o t h1 h2 h3 h4 h5 k s h6 h7 => ins_mono (call_le (Nat.le_max_right n m)) (hm i ((List.getElem?_eq_some_iff.1 h1).1) o t h1 h2 h3 h4 h5 k s h6 h7)⟩]
      exact h
    · simp at h
  · simp at h

section
variable {T : Table} {ρ : Env} {σ : St}

theorem run_skip : run T .skip ρ σ = some (.normal, ρ, σ) := run_iff.2 ⟨1, rfl⟩
theorem run_exit (id : Nat) : run T (.exit id) ρ σ = some (.exit id, ρ, σ) := run_iff.2 ⟨1, rfl⟩
theorem run_ret : run T .ret ρ σ = some (.ret, ρ, σ) := run_iff.2 ⟨1, rfl⟩

theorem run_ops (l : List Op) : run T (.ops l) ρ σ = match opsEv (ev T) l ρ σ with | some (ρ', σ') => some (.normal, ρ', σ') | none => none := by
  apply Option.ext
  intro r
  rw [run_iff]
  constructor
  · rintro ⟨n, h⟩
    cases n with
    | zero => simp [runN] at h
    | succ n =>
      simp only [runN, Option.map_eq_some_iff] at h
      obtain ⟨q, h1, rfl⟩ := h
      rw [ops_mono (ev_of n) h1]
  · intro h
    split at h
    · rename_i ρ' σ' h1
      obtain ⟨n, hn⟩ := ops_fin h1
      exact ⟨n + 1, by simp only [runN, hn, Option.map_some]; exact h⟩
    · simp at h

theorem run_draw (l : List DOp) : run T (.draw l) ρ σ = match drawEv (ev T) T l ρ σ with | some (ρ', σ') => some (.normal, ρ', σ') | none => none := by
  apply Option.ext
  intro r
  rw [run_iff]
  constructor
  · rintro ⟨n, h⟩
    cases n with
    | zero => simp [runN] at h
    | succ n =>
      simp only [runN, Option.map_eq_some_iff] at h
      obtain ⟨q, h1, rfl⟩ := h
      rw [draw_mono (ev_of n) h1]
  · intro h
    split at h
    · rename_i ρ' σ' h1
      obtain ⟨n, hn⟩ := draw_fin h1
      exact ⟨n + 1, by simp only [runN, hn, Option.map_some]; exact h⟩
    · simp at h

/-- What follows where the run came to its end in the ordinary way. -/
def thenRun (k : Env → St → Option (Ex × Env × St)) : Option (Ex × Env × St) → Option (Ex × Env × St)
  | some (.normal, ρ, σ) => k ρ σ
  | r => r

theorem run_seq (a b : C) : run T (.seq a b) ρ σ = thenRun (run T b) (run T a ρ σ) := by
  apply Option.ext
  intro r
  rw [run_iff]
  constructor
  · rintro ⟨n, h⟩
    cases n with
    | zero => simp [runN] at h
    | succ n =>
      rw [runN] at h
      split at h
      · rename_i ρ' σ' h1
        rw [run_of n _ _ _ _ h1]; exact run_of n _ _ _ _ h
      · rename_i hne
        rw [run_of n _ _ _ _ h]
        obtain ⟨e, r⟩ := r
        cases e <;> first | rfl | exact absurd h (hne _ _)
  · intro h
    cases ha : run T a ρ σ with
    | none => rw [ha] at h; simp [thenRun] at h
    | some q =>
      obtain ⟨e, ρ', σ'⟩ := q
      obtain ⟨n, hn⟩ := run_iff.1 ha
      rw [ha] at h
      cases e with
      | normal =>
        simp only [thenRun] at h
        obtain ⟨m, hm⟩ := run_iff.1 h
        refine ⟨max n m + 1, ?_⟩
        rw [runN, run_le (Nat.le_max_left n m) _ _ _ _ hn]
        exact run_le (Nat.le_max_right n m) _ _ _ _ hm
      | exit id => exact ⟨n + 1, by rw [runN, hn]; exact h⟩
      | ret => exact ⟨n + 1, by rw [runN, hn]; exact h⟩

theorem run_loop (c : C) : run T (.loop c) ρ σ = thenRun (run T (.loop c)) (run T c ρ σ) := by
  apply Option.ext
  intro r
  rw [run_iff]
  constructor
  · rintro ⟨n, h⟩
    cases n with
    | zero => simp [runN] at h
    | succ n =>
      rw [runN] at h
      split at h
      · rename_i ρ' σ' h1
        rw [run_of n _ _ _ _ h1]; exact run_of n _ _ _ _ h
      · rename_i hne
        rw [run_of n _ _ _ _ h]
        obtain ⟨e, r⟩ := r
        cases e <;> first | rfl | exact absurd h (hne _ _)
  · intro h
    cases ha : run T c ρ σ with
    | none => rw [ha] at h; simp [thenRun] at h
    | some q =>
      obtain ⟨e, ρ', σ'⟩ := q
      obtain ⟨n, hn⟩ := run_iff.1 ha
      rw [ha] at h
      cases e with
      | normal =>
        simp only [thenRun] at h
        obtain ⟨m, hm⟩ := run_iff.1 h
        refine ⟨max n m + 1, ?_⟩
        rw [runN, run_le (Nat.le_max_left n m) _ _ _ _ hn]
        exact run_le (Nat.le_max_right n m) _ _ _ _ hm
      | exit id => exact ⟨n + 1, by rw [runN, hn]; exact h⟩
      | ret => exact ⟨n + 1, by rw [runN, hn]; exact h⟩

theorem run_cond (x : Arg) (a b : C) : run T (.cond x a b) ρ σ = match x.get ρ with | .bool t => if t then run T a ρ σ else run T b ρ σ | _ => none := by
  apply Option.ext
  intro r
  rw [run_iff]
  constructor
  · rintro ⟨n, h⟩
    cases n with
    | zero => simp [runN] at h
    | succ n =>
      rw [runN] at h
      split at h
      · rename_i t ht
        rw [ht]
        simp only
        split at h
        · rename_i e; rw [if_pos e]; exact run_of n _ _ _ _ h
        · rename_i e; rw [if_neg e]; exact run_of n _ _ _ _ h
      · simp at h
  · intro h
    split at h
    · rename_i t ht
      split at h
      · rename_i e
        obtain ⟨n, hn⟩ := run_iff.1 h
        exact ⟨n + 1, by rw [runN, ht]; simp only [e, if_true]; exact hn⟩
      · rename_i e
        obtain ⟨n, hn⟩ := run_iff.1 h
        exact ⟨n + 1, by rw [runN, ht]; simp only [e]; exact hn⟩
    · simp at h

def inBlk (id : Nat) : Option (Ex × Env × St) → Option (Ex × Env × St)
  | some (.exit id', ρ, σ) => if id' = id then some (.normal, ρ, σ) else some (.exit id', ρ, σ)
  | r => r

theorem run_block (id : Nat) (c : C) : run T (.block id c) ρ σ = inBlk id (run T c ρ σ) := by
  apply Option.ext
  intro r
  rw [run_iff]
  constructor
  · rintro ⟨n, h⟩
    cases n with
    | zero => simp [runN] at h
    | succ n =>
      rw [runN] at h
      split at h
      · rename_i id' ρ' σ' h1
        rw [run_of n _ _ _ _ h1]; exact h
      · rename_i hne
        rw [run_of n _ _ _ _ h]
        obtain ⟨e, r⟩ := r
        cases e <;> first | rfl | exact absurd h (hne _ _ _)
  · intro h
    cases ha : run T c ρ σ with
    | none => rw [ha] at h; simp [inBlk] at h
    | some q =>
      obtain ⟨e, ρ', σ'⟩ := q
      obtain ⟨n, hn⟩ := run_iff.1 ha
      rw [ha] at h
      exact ⟨n + 1, by rw [runN, hn]; cases e <;> exact h⟩

end

theorem ev_sound {P : Program} {T : Table} (hm : P.follows .mixedOrders = true) (hT : ∀ f fi, T f = some fi → FnOk P f fi) : SoundE P (ev T) := by
  refine ⟨fun f args σ r σ' h => ?_, fun i args σ r σ' h => ?_⟩
  · obtain ⟨n, hn⟩ := call_fin h
    exact (callOf_sound hT (sound_n hm hT n)).fn f args σ r σ' hn
  · obtain ⟨n, hn⟩ := round_fin h
    exact (callOf_sound hT (sound_n hm hT n)).yl i args σ r σ' hn

theorem run_rangeF {T : Table} {ρ : Env} {σ : St} (x : Arg) (ps : List Nat) (a b : C) (nt : Nat) : run T (.rangeF x ps a b nt) ρ σ = match x.get ρ with
    | .func (.func f) first capt => loopEnd ⟨σ.next, 0, 0⟩ ρ (ev T f (first ++ [.yld ⟨σ.next, 0, 0⟩] ++ capt) (σ.alloc (.loop nt .ready none ρ ps a b)).2)
    | _ => none := by
  apply Option.ext
  intro r
  rw [run_iff]
  constructor
  · rintro ⟨n, h⟩
    cases n with
    | zero => simp [runN] at h
    | succ n =>
      simp only [runN] at h
      split at h
      · rename_i f first capt hx
        obtain ⟨e, ρ', σ'⟩ := r
        obtain ⟨q, σ2, _, _, _, _, _, _, _, hq, _⟩ := loopEnd_some h
        rw [hq] at h
        simp only [hx]
        rw [(ev_of n).fn _ _ _ _ hq]; exact h
      · simp at h
  · intro h
    split at h
    · rename_i f first capt hx
      obtain ⟨e, ρ', σ'⟩ := r
      obtain ⟨q, σ2, _, _, _, _, _, _, _, hq, _⟩ := loopEnd_some h
      rw [hq] at h
      obtain ⟨n, hn⟩ := call_fin hq
      refine ⟨n + 1, ?_⟩
      simp only [runN, hx]
      rw [hn]; exact h
    · simp at h

end Go.Vm
