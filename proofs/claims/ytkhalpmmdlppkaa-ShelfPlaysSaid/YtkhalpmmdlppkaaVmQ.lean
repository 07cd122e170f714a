/-
  THE GENERIC LAYER 'Vm', part Q: code, and a function's body.
-/
import Derived.Test.YtkhalpmmdlppkaaVmP
import Derived.LoopNIn
import Derived.RangeFuncRecord
namespace Go.Vm
open Classical

/-- A function's code; 'rf': may a loop over a function stand here? (Not in a round.) -/
def trC (P : Program) (nt : Nat) (rf : Bool) : Code → C
  | .skip => .skip
  | .region _ ops draw =>
    if draw then (if predsOk ops (trDraw P nt ops) then .draw (trDraw P nt ops) else .no) else .ops (ops.toList.map (trOp P nt ops))
  | .seq a b => .seq (trC P nt rf a) (trC P nt rf b)
  | .cond x a b => match trArg nt x with
    | some y => .cond y (trC P nt rf a) (trC P nt rf b)
    | none => .no
  | .block id c => .block id (trC P nt rf c)
  | .loop c => .loop (trC P nt rf c)
  | .exit id => .exit id
  | .ret => .ret
  | .rangeFunc f ps a c => if rf then match trArg nt f with
      | some x => .rangeF x ps.toList (trC P nt false a) (trC P nt false c) nt
      | none => .no
    else .no
  | _ => .no

/-- The code of a round. -/
abbrev trF (P : Program) : Nat → Code → C := fun nt c => trC P nt false c
abbrev SoundE (P : Program) (E : CallH) : Prop := SoundT P (trF P) E

def exR : Ex → Exit → Prop
  | .normal, .normal => True
  | .exit i, .exit j => i = j
  | .ret, .ret => True
  | _, _ => False

def markOf (D : Nat) : Deferred := { target := .collected D, args := #[] }

/-- The marks that the loops over functions have left: their blocks are there, and hold no call. -/
structure Marks (K K' : Ctx) (Ds : List Nat) : Prop where
  nd : Ds.Nodup
  ge : ∀ D ∈ Ds, K.w.heap.size ≤ D
  free : ∀ D ∈ Ds, K'.free D
  blk : ∀ D ∈ Ds, K'.w.heap[D]? = some (.deferred (some []))

theorem Marks.nil (K K' : Ctx) : Marks K K' [] := ⟨List.nodup_nil, by simp, by simp, by simp⟩
theorem Marks.lt {K K' : Ctx} {Ds : List Nat} (h : Marks K K' Ds) : ∀ D ∈ Ds, D < K'.w.heap.size := fun D hD => (Array.getElem?_eq_some_iff.1 (h.blk D hD)).1
theorem Marks.ext {K K1 K2 : Ctx} {Ds : List Nat} (h : Marks K K1 Ds) (e : Ext K1 K2) : Marks K K2 Ds :=
  ⟨h.nd, h.ge, fun D hD => e.free D (h.lt D hD) (h.free D hD), fun D hD => by rw [e.same D (h.lt D hD) (h.free D hD)]; exact h.blk D hD⟩
theorem Marks.trans {K K1 K2 : Ctx} {Ds Ds' : List Nat} (h : Marks K K1 Ds) (h' : Marks K1 K2 Ds') (e0 : Ext K K1) (e : Ext K1 K2) : Marks K K2 (Ds' ++ Ds) := by
  have h2 := h.ext e
  refine ⟨List.nodup_append.2 ⟨h'.nd, h.nd, fun a ha b hb hab => ?_⟩, fun D hD => ?_, fun D hD => ?_, fun D hD => ?_⟩
  · subst hab
    have := h'.ge a ha
    have := h.lt a hb
    omega
  · rcases List.mem_append.1 hD with hD | hD
    · exact Nat.le_trans e0.size (h'.ge D hD)
    · exact h.ge D hD
  · rcases List.mem_append.1 hD with hD | hD
    · exact h'.free D hD
    · exact h2.free D hD
  · rcases List.mem_append.1 hD with hD | hD
    · exact h'.blk D hD
    · exact h2.blk D hD

def PostC (K : Ctx) (nt : Nat) (e : Ex) (ρ' : Env) (σ' : St) (a0 : Act) : Exit → Act → World → Prop := fun ex a' w' =>
  exR e ex ∧ ∃ K' Ds, K'.w = w' ∧ Step K K' ∧ Rel K' σ' ∧ EnvR K' nt ρ' a' ∧ a'.defers = Ds.map markOf ++ a0.defers ∧ Marks K K' Ds

theorem PostC.mono {K K1 : Ctx} {nt : Nat} {e : Ex} {ρ' : Env} {σ' : St} {a0 a1 : Act} {Ds1 : List Nat} (hs : Step K K1) (hd : a1.defers = Ds1.map markOf ++ a0.defers) (hm : Marks K K1 Ds1) {ex : Exit} {a' : Act} {w' : World}
    (h : PostC K1 nt e ρ' σ' a1 ex a' w') : PostC K nt e ρ' σ' a0 ex a' w' := by
  obtain ⟨h1, K', Ds, h2, h3, h4, h5, h6, h7⟩ := h
  exact ⟨h1, K', Ds ++ Ds1, h2, hs.trans h3, h4, h5, by rw [h6, hd, List.map_append, List.append_assoc], hm.trans h7 hs.ext h3.ext⟩

section
variable {P : Program} {T : Table}

theorem rounds_mono {F : Fence} {n : Nat} {c : Code} {Q Q' : Exit → Act → World → Prop} (hq : ∀ e a w, Q e a w → Q' e a w) : ∀ (m : Nat) (a : Act) (w : World), Code.roundsIn F n P c Q m a w → Code.roundsIn F n P c Q' m a w
  | 0, _, _, h => h.elim
  | m + 1, a, w, h => by
    rw [roundsIn_succ] at h ⊢
    refine wpIn_mono h fun e a' w' hp => ?_
    cases e <;> first | exact rounds_mono hq m a' w' hp | exact hq _ _ _ hp

def SoundR (P : Program) (R : Runner) : Prop := ∀ (ro : Option Nat) (rf : Bool) (nt : Nat) (code : Code) (ρ : Env) (σ : St) (e : Ex) (ρ' : Env) (σ' : St), (rf = true → ro = none) → R (trC P nt rf code) ρ σ = some (e, ρ', σ') →
  ∀ (K : Ctx) (a : Act), K.tr = trF P → Rel K σ → EnvR K nt ρ a → code.wpIn (FW ro) 0 P (PostC K nt e ρ' σ' a) a K.w

/-- The loop's end. -/
theorem loopEnd_some {i : Id} {ρ ρ' : Env} {q : Option (AV × St)} {e : Ex} {σ' : St} (h : loopEnd i ρ q = some (e, ρ', σ')) :
    ∃ r σ2 nt st pd ρ0 ps as body, q = some (r, σ2) ∧ σ2.heap i = some (.loop nt st pd ρ0 ps as body) ∧ st ≠ .busy ∧ e = pd.getD .normal ∧ ρ = ρ' ∧ σ' = σ2.set i none := by
  unfold loopEnd at h
  split at h
  · rename_i r σ2
    split at h
    · rename_i nt st pd ρ0 ps as body hh
      split at h
      · simp at h
      · rename_i hst
        simp only [Option.some.injEq, Prod.mk.injEq] at h
        obtain ⟨rfl, rfl, rfl⟩ := h
        exact ⟨r, σ2, nt, st, pd, ρ0, ps, as, body, rfl, hh, hst, rfl, rfl, rfl⟩
    · simp at h
  · simp at h

/-- A loop's record, written. -/
theorem setLoop_sound {K : Ctx} {σ : St} (hK : Rel K σ) {i : Id} {nt : Nat} {st : LoopState} {pd : Option Ex} {ρ : Env} {ps : List Nat} {as body : C} (hh : σ.heap i = some (.loop nt st pd ρ ps as body)) {l d : Nat} (hm : K.mu i = some (l, d))
    (o : Obj) (x : Option Blk) (hx : ∀ K', Ext K K' → K'.w = K.w.putObj l o → ∀ y, x = some y → BlkR K' l d y) :
    ∃ K', K'.w = K.w.putObj l o ∧ Step K K' ∧ Rel K' (σ.set i x) ∧ K'.mu = K.mu ∧ K'.bd = K.bd := by
  obtain ⟨b', d', h1, hb⟩ := hK.blk i _ hh
  rw [hm] at h1
  simp only [Option.some.injEq, Prod.mk.injEq] at h1
  obtain ⟨rfl, rfl⟩ := h1
  obtain ⟨r, hr, _⟩ := hb
  have hlt : l < K.w.heap.size := (Array.getElem?_eq_some_iff.1 hr).1
  have hoth : ∀ b, b ≠ l → (K.w.putObj l o).heap[b]? = K.w.heap[b]? := fun b hb => World.putObj_heap_other hb
  have hroom : ∀ b' o', Room K.w b' o' → Room (K.w.putObj l o) b' o' := fun b' o' h => by
    have hne : b' ≠ l := by
      rintro rfl
      have := h.1
      simp [World.cell?, hr] at this
    exact ⟨by rw [cell?_congr (hoth b' hne)]; exact h.1, by rw [frozen?_congr (hoth b' hne)]; exact h.2⟩
  have hext : Ext K { K with w := K.w.putObj l o } :=
    ⟨by simp, fun b _ hf => hoth b (by rintro rfl; exact hf i d hm), fun _ _ h => h, fun _ _ _ h => h, fun _ h => h, fun _ _ _ h => h, hroom, ⟨rfl, rfl⟩, rfl⟩
  refine ⟨_, rfl, ⟨hext, fun _ => Iff.rfl⟩, ⟨hK.bd, hK.inj, fun j b d' hj => by simpa using hK.lt j b d' hj, hK.mubd, hK.fm, fun b hb' => by simpa using hK.fmlt b hb', fun j y hy => ?_⟩, rfl, rfl⟩
  by_cases hj : j = i
  · subst hj
    simp only [St.set, if_true] at hy
    exact ⟨l, d, hm, hx _ hext rfl y hy⟩
  · simp only [St.set, hj, if_false] at hy
    obtain ⟨b', d', h1, h2⟩ := hK.blk j y hy
    refine ⟨b', d', h1, h2.ext hext (hoth b' ?_)⟩
    rintro rfl
    exact hj (hK.inj _ _ _ _ _ h1 hm)

theorem rangeF_sound {E : CallH} (hE : SoundE P E) {K : Ctx} {σ σ' : St} {nt : Nat} {ρ ρ' : Env} {a : Act} (hKt : K.tr = trF P) (hK : Rel K σ) (hρ : EnvR K nt ρ a) {g : Operand} {x : Arg} (hg : trArg nt g = some x) {ps : Array Tmp} {assign body : Code}
    {f : FuncId} {first capt : List AV} (hx : x.get ρ = .func (.func f) first capt) {e : Ex}
    (h : loopEnd ⟨σ.next, 0, 0⟩ ρ (E f (first ++ [.yld ⟨σ.next, 0, 0⟩] ++ capt) (σ.alloc (.loop nt .ready none ρ ps.toList (trF P nt assign) (trF P nt body))).2) = some (e, ρ', σ')) :
    (Code.rangeFunc g ps assign body).wpIn (FW none) 0 P (PostC K nt e ρ' σ' a) a K.w := by
  obtain ⟨r, σ2, nt2, st, pd, ρ0, ps2, as2, body2, hq, hh, hst, rfl, rfl, rfl⟩ := loopEnd_some h
  have hgv := arg_sound hρ hg
  rw [hx] at hgv
  generalize e1 : a.eval g = gv at hgv
  cases hgv with
  | func gf gc q1 q2 q3 q4 =>
  refine wpIn_rangeFunc fun fn _ => ?_
  -- the block for the rounds' deferred calls
  have hold1 : ∀ b', b' < K.w.heap.size → (K.w.alloc (.deferred (some []))).heap[b']? = K.w.heap[b']? := fun b' hb => (MapKept.heap_alloc K.w _).2 b' hb
  have hs1 : Step K { K with w := K.w.alloc (.deferred (some [])) } := ⟨⟨by simp, fun b' hb _ => hold1 b' hb, fun _ _ h => h, fun _ _ _ h => h, fun _ h => h, fun _ _ _ h => h, fun b' o' hr => by
    have hb : b' < K.w.heap.size := Room.lt hr
    exact ⟨by rw [cell?_congr (hold1 b' hb)]; exact hr.1, by rw [frozen?_congr (hold1 b' hb)]; exact hr.2⟩, ⟨rfl, rfl⟩, rfl⟩, fun _ => Iff.rfl⟩
  have hK1 : Rel { K with w := K.w.alloc (.deferred (some [])) } σ := hK.keep hs1.ext rfl (fun _ => Iff.rfl) (fun _ => Iff.rfl) hold1
  generalize hK1e : ({ K with w := K.w.alloc (.deferred (some [])) } : Ctx) = K1 at hs1 hK1
  have hw1 : K1.w = K.w.alloc (.deferred (some [])) := by rw [← hK1e]
  have hmu1 : K1.mu = K.mu := by rw [← hK1e]
  have hsz1 : K1.w.heap.size = K.w.heap.size + 1 := by rw [hw1]; simp
  -- the record
  obtain ⟨K2, hw2, hs2, hK2, hmu2, hbd2⟩ := push_sound hK1 (w' := K1.w.alloc (.loop { state := .ready, pending := none, fn, tmps := a.tmps, params := ps, assign, body, defers := K.w.heap.size })) (ob := .loop { state := .ready, pending := none, fn, tmps := a.tmps, params := ps, assign, body, defers := K.w.heap.size }) (fun _ => false) rfl ⟨rfl, rfl⟩
    (x := .loop nt .ready none ρ ps.toList (trF P nt assign) (trF P nt body)) (fun K' he hw' => by
      have htr : K'.tr = trF P := he.tr.trans (hs1.ext.tr.trans hKt)
      refine ⟨{ state := .ready, pending := none, fn, tmps := a.tmps, params := ps, assign, body, defers := K.w.heap.size }, by rw [hw']; exact (MapKept.heap_alloc K1.w _).1, rfl, trivial, rfl, hρ.size, fun t ht => ((hρ.val t ht).ext hs1.ext).ext he, by rw [htr], by rw [htr]⟩)
  have hσ1 : (σ.alloc (.loop nt .ready none ρ ps.toList (trF P nt assign) (trF P nt body))).2 = σ.bind (fun _ => false) (.loop nt .ready none ρ ps.toList (trF P nt assign) (trF P nt body)) := by rw [St.alloc_eq]
  rw [hσ1] at hq
  obtain ⟨he, hc⟩ := hE.fn _ _ _ _ _ hq
  have hE2 : Ext K K2 := (hs1.trans hs2).ext
  have hcall := hc K2 (gf.toList ++ [.func (.yield K1.w.heap.size) #[] #[]] ++ gc.toList) (hE2.tr.trans hKt) hK2
    (VRs.append (VRs.append (⟨by simpa using q1, fun j hj => by simpa using (q3 j hj).ext hE2⟩ : VRs K2 first gf.toList) (VRs.cons (.yld hbd2 fun b d hm => by rw [hmu2] at hm; simp only [Option.some.injEq, Prod.mk.injEq] at hm; exact hm.1) (VRs.nil _)))
      (⟨by simpa using q2, fun j hj => by simpa using (q4 j hj).ext hE2⟩ : VRs K2 capt gc.toList))
  have hlist : (gf.toList ++ [Value.func (.yield K1.w.heap.size) #[] #[]] ++ gc.toList).toArray = gf ++ #[.func (.yield K1.w.heap.size) #[] #[]] ++ gc := by apply Array.ext'; simp
  rw [hlist] at hcall
  refine ⟨K.w.heap.size + 1, [markOf K.w.heap.size], K2.w, { target := .fn (.func f) gc, args := gf ++ #[.func (.yield K1.w.heap.size) #[] #[]] }, K2.w, f, gf ++ #[.func (.yield K1.w.heap.size) #[] #[]] ++ gc, K2.w, ?_, ?_, fun _ _ => trivial, ?_, fun h => by simp [Fence.wide] at h, ?_⟩
  · rw [hw2, hw1]; exact run_enterLoop_outer fn a.tmps ps assign body
  · rw [← hsz1]
    simp [resolve, e1, Deferred.ofValue]
    rfl
  · have := run_callFunc he (gf ++ #[.func (.yield K1.w.heap.size) #[] #[]] ++ gc) K2.w
    simpa [invoke] using this
  · refine (callsFW hcall none).mono ?_
    rintro en w3 ⟨v, K3, rfl, rfl, hs3, hK3, _⟩
    obtain ⟨b, d, hm, hblk⟩ := hK3.blk _ _ hh
    have hbm := hs3.ext.mu _ hbd2 _ hm
    rw [hmu2] at hbm
    simp only [Option.some.injEq, Prod.mk.injEq] at hbm
    obtain ⟨rfl, rfl⟩ := hbm
    obtain ⟨rc, r1, r2, r3, r4⟩ := hblk
    obtain ⟨K4, hw4, hs4, hK4, hmu4, _⟩ := setLoop_sound hK3 hh hm (.loop { rc with state := .exhausted }) none (fun _ _ _ y hy => by simp at hy)
    rw [hsz1] at r1 hw4
    have hend := run_endLoop (P := P) r1 (by rw [r2]; exact hst)
    have hS : Step K K4 := ((hs1.trans hs2).trans hs3).trans hs4
    have hE4 : Ext K1 K4 := ((hs2.trans hs3).trans hs4).ext
    have hD1 : K1.free K.w.heap.size := fun j d hm => by
      rw [hmu1] at hm
      exact absurd (hK.lt j _ _ hm) (Nat.lt_irrefl _)
    have hDb : K1.w.heap[K.w.heap.size]? = some (.deferred (some [])) := by rw [hw1]; exact (MapKept.heap_alloc K.w _).1
    have hM : Marks K K4 [K.w.heap.size] := by
      refine ⟨by simp, fun D hD => ?_, fun D hD => ?_, fun D hD => ?_⟩ <;> (obtain rfl : D = K.w.heap.size := by simpa using hD)
      · exact Nat.le_refl _
      · exact hE4.free _ (by omega) hD1
      · rw [hE4.same _ (by omega) hD1]; exact hDb
    have post : ∀ ex, exR (pd.getD .normal) ex → PostC K nt (pd.getD .normal) ρ (σ2.set ⟨σ.next, 0, 0⟩ none) a ex { a with defers := [markOf K.w.heap.size] ++ a.defers } K4.w := fun ex hex =>
      ⟨hex, K4, [K.w.heap.size], rfl, hS, hK4, ⟨hρ.size, fun t ht => (hρ.val t ht).ext hS.ext⟩, rfl, hM⟩
    refine ⟨rc.pending, K4.w, by rw [hw4]; exact hend, ?_⟩
    cases pd with
    | none =>
      cases hp : rc.pending with
      | none => exact post .normal trivial
      | some c => rw [hp] at r3; exact r3.elim
    | some ex =>
      cases hp : rc.pending with
      | none => rw [hp] at r3; cases ex <;> exact r3.elim
      | some c =>
        rw [hp] at r3
        cases ex <;> cases c <;> first | exact r3.elim | skip
        · simp only [PdR] at r3
          subst r3
          exact wpIn_exit (post (.exit _) rfl)
        · exact wpIn_ret (post .ret trivial)

theorem code_sound (hm : P.follows .mixedOrders = true) (hE : ∀ n, SoundR P (runN T n) → SoundE P (callOf T (runN T n)))
    (hpure : ∀ n f fi, T f = some fi → fi.hint = .pure → ∀ args σ r σ', callOf T (runN T n) f args σ = some (r, σ') → σ' = σ) (n : Nat) :
    SoundR P (runN T n) ∧ ∀ (ro : Option Nat) (rf : Bool) (nt : Nat) (c : Code) (ρ : Env) (σ : St) (e : Ex) (ρ' : Env) (σ' : St), (rf = true → ro = none) → runN T n (.loop (trC P nt rf c)) ρ σ = some (e, ρ', σ') →
      ∀ (K : Ctx) (a : Act), K.tr = trF P → Rel K σ → EnvR K nt ρ a → Code.roundsIn (FW ro) 0 P c (PostC K nt e ρ' σ' a) n a K.w := by
  induction n with
  | zero => exact ⟨fun ro rf nt code ρ σ e ρ' σ' _ h => by simp [runN] at h, fun ro rf nt c ρ σ e ρ' σ' _ h => by simp [runN] at h⟩
  | succ n ih =>
    obtain ⟨ihR, ihL⟩ := ih
    have hEn := hE n ihR
    have loops : ∀ (ro : Option Nat) (rf : Bool) (nt : Nat) (c : Code) (ρ : Env) (σ : St) (e : Ex) (ρ' : Env) (σ' : St), (rf = true → ro = none) → runN T (n + 1) (.loop (trC P nt rf c)) ρ σ = some (e, ρ', σ') →
      ∀ (K : Ctx) (a : Act), K.tr = trF P → Rel K σ → EnvR K nt ρ a → Code.roundsIn (FW ro) 0 P c (PostC K nt e ρ' σ' a) (n + 1) a K.w := by
      intro ro rf nt c ρ σ e ρ' σ' hrf h K a hKt hK hρ
      simp only [runN] at h
      rw [roundsIn_succ]
      split at h
      · rename_i ρ1 σ1 h1
        refine wpIn_mono (ihR ro rf nt c ρ σ _ ρ1 σ1 hrf h1 K a hKt hK hρ) fun ex a' w' hp => ?_
        obtain ⟨hex, K', Ds, rfl, hs, hr, hen, hd, hmk⟩ := hp
        cases ex <;> simp only [exR] at hex
        simp only [Exit.then]
        exact rounds_mono (fun _ _ _ hq => hq.mono hs hd hmk) n _ _ (ihL ro rf nt c ρ1 σ1 e ρ' σ' hrf h K' a' (hs.ext.tr.trans hKt) hr hen)
      · rename_i r hr
        have hne : e ≠ .normal := by
          rintro rfl
          exact hr _ _ h
        refine wpIn_mono (ihR ro rf nt c ρ σ e ρ' σ' hrf h K a hKt hK hρ) fun ex a' w' hp => ?_
        cases ex <;> first | exact hp | (exfalso; have := hp.1; cases e <;> simp [exR] at this hne)
    refine ⟨?_, loops⟩
    intro ro rf nt code ρ σ e ρ' σ' hrf h K a hKt hK hρ
    have here : ∀ ex, exR e ex → ρ' = ρ → σ' = σ → PostC K nt e ρ' σ' a ex a K.w := by
      rintro ex hex rfl rfl
      exact ⟨hex, K, [], rfl, Step.refl K, hK, hρ, rfl, Marks.nil K K⟩
    cases code with
    | skip =>
      simp only [trC, runN, Option.some.injEq, Prod.mk.injEq] at h
      obtain ⟨rfl, rfl, rfl⟩ := h
      exact wpIn_skip (here _ trivial rfl rfl)
    | region id ops draw =>
      simp only [trC] at h
      cases draw with
      | true =>
        simp only [if_true] at h
        split at h
        · rename_i hpo
          simp only [runN, Option.map_eq_some_iff, Prod.mk.injEq] at h
          obtain ⟨⟨ρ1, σ1⟩, hd, rfl, rfl, rfl⟩ := h
          exact draw_sound hEn (hpure n) hm hpo hKt hK hρ hd fun K' a' h1 h2 h3 h4 => ⟨trivial, K', [], rfl, h1, h2, h3, h4, Marks.nil K K'⟩
        · simp [runN] at h
      | false =>
        simp only [Bool.false_eq_true, if_false, runN, Option.map_eq_some_iff, Prod.mk.injEq] at h
        obtain ⟨⟨ρ1, σ1⟩, hd, rfl, rfl, rfl⟩ := h
        refine wpIn_region ?_
        have := ops_sound (ro := ro) (Q := PostC K nt .normal ρ1 σ1 a) hEn ops.toList 0 rfl hKt hK hρ hd fun K' a' h1 h2 h3 h4 => ⟨trivial, K', [], rfl, h1, h2, h3, h4, Marks.nil K K'⟩
        rw [List.range_eq_range']
        simpa using this
    | seq x y =>
      simp only [trC, runN] at h
      split at h
      · rename_i ρ1 σ1 h1
        refine wpIn_seq (wpIn_mono (ihR ro rf nt x ρ σ _ ρ1 σ1 hrf h1 K a hKt hK hρ) fun ex a' w' hp => ?_)
        obtain ⟨hex, K', Ds, rfl, hs, hr, hen, hd, hmk⟩ := hp
        cases ex <;> simp only [exR] at hex
        exact wpIn_mono (ihR ro rf nt y ρ1 σ1 e ρ' σ' hrf h K' a' (hs.ext.tr.trans hKt) hr hen) fun ex a2 w2 hq => hq.mono hs hd hmk
      · rename_i r hr
        have hne : e ≠ .normal := by
          rintro rfl
          exact hr _ _ h
        refine wpIn_seq (wpIn_mono (ihR ro rf nt x ρ σ e ρ' σ' hrf h K a hKt hK hρ) fun ex a' w' hp => ?_)
        cases ex <;> first | exact hp | (exfalso; have := hp.1; cases e <;> simp [exR] at this hne)
    | cond x y z =>
      simp only [trC] at h
      split at h
      · rename_i x' hx
        simp only [runN] at h
        split at h <;> try simp only [reduceCtorEq] at h
        rename_i t heq
        have hv := arg_sound hρ hx
        rw [heq] at hv
        have e1 : a.eval x = .bool t := by generalize a.eval x = q at hv; cases hv; rfl
        cases t with
        | true => exact wpIn_cond_true e1 (ihR ro rf nt y ρ σ e ρ' σ' hrf (by simpa using h) K a hKt hK hρ)
        | false => exact wpIn_cond_false e1 (ihR ro rf nt z ρ σ e ρ' σ' hrf (by simpa using h) K a hKt hK hρ)
      · simp [runN] at h
    | block id c =>
      simp only [trC, runN] at h
      split at h
      · rename_i id' ρ1 σ1 h1
        refine wpIn_block (wpIn_mono (ihR ro rf nt c ρ σ _ ρ1 σ1 hrf h1 K a hKt hK hρ) fun ex a' w' hp => ?_)
        obtain ⟨hex, hrest⟩ := hp
        cases ex <;> simp only [exR] at hex
        subst hex
        simp only [Exit.inBlock]
        split at h
        · rename_i hid
          simp only [Option.some.injEq, Prod.mk.injEq] at h
          obtain ⟨rfl, rfl, rfl⟩ := h
          rw [if_pos hid]; exact ⟨trivial, hrest⟩
        · rename_i hid
          simp only [Option.some.injEq, Prod.mk.injEq] at h
          obtain ⟨rfl, rfl, rfl⟩ := h
          rw [if_neg hid]; exact ⟨rfl, hrest⟩
      · rename_i r hr
        have hne : ∀ j, e ≠ .exit j := by
          rintro j rfl
          exact hr _ _ _ h
        refine wpIn_block (wpIn_mono (ihR ro rf nt c ρ σ e ρ' σ' hrf h K a hKt hK hρ) fun ex a' w' hp => ?_)
        cases ex <;> first | exact hp | (exfalso; have := hp.1; cases e <;> simp [exR] at this hne)
    | loop c => exact wpIn_loop_rounds (n + 1) (loops ro rf nt c ρ σ e ρ' σ' hrf h K a hKt hK hρ)
    | exit id =>
      simp only [trC, runN, Option.some.injEq, Prod.mk.injEq] at h
      obtain ⟨rfl, rfl, rfl⟩ := h
      exact wpIn_exit (here _ rfl rfl rfl)
    | ret =>
      simp only [trC, runN, Option.some.injEq, Prod.mk.injEq] at h
      obtain ⟨rfl, rfl, rfl⟩ := h
      exact wpIn_ret (here _ trivial rfl rfl)
    | rangeFunc g ps assign body =>
      simp only [trC] at h
      split at h
      · rename_i hrt
        obtain rfl := hrf hrt
        split at h
        · rename_i x hx
          simp only [runN] at h
          split at h
          · rename_i f first capt hxv
            exact rangeF_sound hEn hKt hK hρ hx hxv h
          · simp at h
        · simp [runN] at h
      · simp [runN] at h
    | scope => simp [trC, runN] at h
    | label => simp [trC, runN] at h
    | goto => simp [trC, runN] at h
    | refuse => simp [trC, runN] at h

/-! ### a function's body -/

def trRes (P : Program) (nt : Nat) : List ResultVar → Option (List RV)
  | [] => some []
  | .tmp t :: l => if t < nt then (trRes P nt l).map (.tmp t :: ·) else none
  | .cell x t :: l => if x < nt then (shapeOf P t).bind fun sh => (trRes P nt l).map (.cell x sh.1 sh.2 :: ·) else none

/-- What a function gives, whatever is in the heap. -/
def Known (P : Program) (f : FuncId) (g : List AV → Option AV) : Prop :=
  ∀ args r, g args = some r → ∀ (K : Ctx) (σ : St) (vargs : List Value), K.tr = trF P → Rel K σ → VRs K args vargs → Calls P f vargs.toArray K.w (Came K σ r)

structure FnOk (P : Program) (f : FuncId) (fi : FnI) : Prop where
  known : ∀ g, fi.hint = .known g → Known P f g
  is : ∃ fn code, P.funcs[f]? = some fn ∧ fn.name ≠ "runtime.NumGoroutine" ∧ fn.body = some code ∧ trC P fi.nt true code = fi.code ∧ fn.ntmps = fi.nt ∧ trRes P fi.nt fn.results.toList = some fi.res ∧ fi.np ≤ fi.nt

theorem FnOk.enters {f : FuncId} {fi : FnI} (h : FnOk P f fi) : Enters P f := by
  obtain ⟨fn, code, h1, h2, h3, _⟩ := h.is
  exact ⟨fn, h1, h2, by rw [h3]; simp⟩

def resM (a : Act) : ResultVar → Sem Value
  | .tmp t => Pure.pure (a.tmps.getD t undef)
  | .cell x t => do loadVar t (← asAddr (a.tmps.getD x undef))

theorem results_eq (fn : Func) (a : Act) : results fn a.tmps = (do let vs ← fn.results.mapM (resM a); Pure.pure (if h : vs.size = 1 then vs[0] else .tuple vs) : Sem Value) := by
  unfold results
  congr 1

theorem res_sound {K : Ctx} {σ : St} (hK : Rel K σ) {nt : Nat} {ρ : Env} {a : Act} (hρ : EnvR K nt ρ a) : ∀ {l : List ResultVar} {rs : List RV} {vs : List AV}, trRes P nt l = some rs → resultOf σ ρ rs = some vs →
    ∃ vals : List Value, (l.mapM (resM a)).run P K.w = .ok vals K.w ∧ VRs K vs vals
  | [], rs, vs, h1, h2 => by
    simp only [trRes, Option.some.injEq] at h1; subst h1
    simp only [resultOf, Option.some.injEq] at h2; subst h2
    exact ⟨[], rfl, VRs.nil K⟩
  | .tmp t :: l, rs, vs, h1, h2 => by
    simp only [trRes] at h1
    split at h1 <;> try simp only [Option.map_eq_some_iff, reduceCtorEq] at h1
    rename_i ht
    obtain ⟨rs', h1, rfl⟩ := h1
    simp only [resultOf, Option.map_eq_some_iff] at h2
    obtain ⟨vs', h2, rfl⟩ := h2
    obtain ⟨vals, q1, q2⟩ := res_sound hK hρ h1 h2
    refine ⟨a.tmps.getD t undef :: vals, ?_, VRs.cons (hρ.val t ht) q2⟩
    simp only [List.mapM_cons, resM, Sem.run_bind, Sem.run_pure, Result.andThen_ok, q1]
  | .cell x t :: l, rs, vs, h1, h2 => by
    simp only [trRes] at h1
    split at h1 <;> try simp only [Option.bind_eq_some_iff, Option.map_eq_some_iff, reduceCtorEq] at h1
    rename_i hx
    obtain ⟨sh, hsh, rs', h1, rfl⟩ := h1
    simp only [resultOf, Option.bind_eq_some_iff, Option.map_eq_some_iff] at h2
    obtain ⟨v, hv, vs', h2, rfl⟩ := h2
    obtain ⟨vals, q1, q2⟩ := res_sound hK hρ h1 h2
    have hval := hρ.val x hx
    obtain ⟨v', r1, r2⟩ := loadAt_sound (P := P) hK hval hv (t := t) hsh
    refine ⟨v' :: vals, ?_, VRs.cons r2 q2⟩
    have hptr : ∃ ad, a.tmps.getD x undef = .pointer (some ad) := by
      generalize a.tmps.getD x undef = q at hval
      generalize ρ x = y at hval hv
      cases hval <;> simp [loadAt] at hv <;> exact ⟨_, rfl⟩
    obtain ⟨ad, had⟩ := hptr
    rw [had] at r1
    simp only [Instr.loadAt, Instr.sureAddr, Sem.run_bind, Sem.run_pure, Result.andThen_ok] at r1
    simp only [List.mapM_cons, resM, had, Sem.run_bind, Sem.run_pure, Result.andThen_ok, asAddr, r1, q1]

/-- What is read as it was, when a mark's block is shut. -/
def Ctx.close (K : Ctx) (D : Nat) : Ctx := { K with w := K.w.putObj D (.deferred none) }

section
variable {K : Ctx} {D : Nat} (hb : K.w.heap[D]? = some (.deferred (some [])))
include hb
omit hb in
theorem close_other (b : Nat) (h : b ≠ D) : (K.close D).w.heap[b]? = K.w.heap[b]? := World.putObj_heap_other h
theorem close_at : (K.close D).w.heap[D]? = some (.deferred none) := World.putObj_heap_same (Array.getElem?_eq_some_iff.1 hb).1
theorem close_cell (b o : Nat) : (K.close D).w.cell? ⟨b, o, none⟩ = K.w.cell? ⟨b, o, none⟩ := by
  by_cases h : b = D
  · subst h; simp [World.cell?, close_at hb, hb]
  · exact cell?_congr (close_other b h)
theorem close_frozen (b o : Nat) : (K.close D).w.frozen? ⟨b, o, none⟩ = K.w.frozen? ⟨b, o, none⟩ := by
  by_cases h : b = D
  · subst h; simp [World.frozen?, close_at hb, hb]
  · exact frozen?_congr (close_other b h)
omit hb in
theorem close_size : (K.close D).w.heap.size = K.w.heap.size := by simp [Ctx.close]

theorem VR.close {x : AV} {v : Value} (hx : VR K x v) : VR (K.close D) x v := by
  induction hx with
  | int k n => exact .int k n
  | bool b => exact .bool b
  | str s => exact .str s
  | nilp => exact .nilp
  | ptr h0 h1 => exact .ptr h0 h1
  | iptr g hlt hfree hfm hcell hnr hc hv ih => exact .iptr g (by rw [close_size]; exact hlt) hfree hfm hcell hnr (fun j hj => by rw [close_cell hb]; exact hc j hj) ih
  | nilsl => exact .nilsl
  | esl => exact .esl
  | sl h0 h1 hl hcap hr => exact .sl h0 h1 hl hcap (fun b d hm j hj => ⟨by rw [close_cell hb]; exact (hr b d hm j hj).1, by rw [close_frozen hb]; exact (hr b d hm j hj).2⟩)
  | isl g hpos hcell hnr hc hv hl hcap ih => exact .isl g (fun hne => by rw [close_size]; exact hpos hne) hcell hnr (fun j hj => by rw [close_cell hb]; exact hc j hj) ih hl hcap
  | islE hcap => exact .islE hcap
  | islNil hcap => exact .islNil hcap
  | nilm => exact .nilm
  | map h0 h1 => exact .map h0 h1
  | yld h0 h1 => exact .yld h0 h1
  | imap hnr hlt hfree hfm hr hk hvl hks hvs ih1 ih2 =>
    exact .imap hnr (by rw [close_size]; exact hlt) hfree hfm (by rw [close_other _ (by rintro rfl; rw [hb] at hr; cases hr)]; exact hr) hk hvl ih1 ih2
  | func gf gc h1 h2 hf hc ih1 ih2 => exact .func gf gc h1 h2 ih1 ih2
  | nilFunc => exact .nilFunc
  | iface hx ih => exact .iface ih
  | nilIface => exact .nilIface
  | agg g h1 hcell hv ih => exact .agg g h1 hcell ih
  | tup g h1 hv ih => exact .tup g h1 ih

theorem Rel.close {σ : St} (hK : Rel K σ) (hf : K.free D) : Rel (K.close D) σ where
  bd := hK.bd
  inj := hK.inj
  lt i b d hm := by rw [close_size]; exact hK.lt i b d hm
  mubd := hK.mubd
  fm := hK.fm
  fmlt b h := by rw [close_size]; exact hK.fmlt b h
  blk i x hx := by
    obtain ⟨b, d, h1, h2⟩ := hK.blk i x hx
    have hne : b ≠ D := by rintro rfl; exact hf i d h1
    refine ⟨b, d, h1, ?_⟩
    cases x with
    | cells cs =>
      obtain ⟨g1, g2, g, g3, g4⟩ := h2
      exact ⟨g1, by unfold FzOk; rw [close_other b hne]; exact g2, g, fun j hj => by rw [close_cell hb, close_frozen hb]; exact g3 j hj, fun j hj => (g4 j hj).close hb⟩
    | map ks vs =>
      obtain ⟨es, clk, g1, g2, g3, g4, g5⟩ := h2
      exact ⟨es, clk, by rw [close_other b hne]; exact g1, g2, g3, fun j hj => (g4 j hj).close hb, fun j hj => (g5 j hj).close hb⟩
    | loop nt st pd ρ ps as body =>
      obtain ⟨r, g1, g2, g3, g4, g5, g6, g7, g8⟩ := h2
      exact ⟨r, by rw [close_other b hne]; exact g1, g2, g3, g4, g5, fun t ht => (g6 t ht).close hb, g7, g8⟩

theorem Step.close {K0 : Ctx} (hs : Step K0 K) (hge : K0.w.heap.size ≤ D) : Step K0 (K.close D) := by
  refine ⟨⟨by rw [close_size]; exact hs.ext.size, fun b h1 h2 => ?_, fun b h1 h2 => hs.ext.free b h1 h2, fun i h p hp => hs.ext.mu i h p hp, hs.ext.bd, fun b h1 h2 h3 => hs.ext.fm b h1 h2 h3, fun b o hr => ?_, hs.ext.out, hs.ext.tr⟩, hs.fm⟩
  · rw [close_other b (by omega)]; exact hs.ext.same b h1 h2
  · have := hs.ext.keep b o hr
    exact ⟨by rw [close_cell hb]; exact this.1, by rw [close_frozen hb]; exact this.2⟩
end

theorem out_sound {K K' : Ctx} {fi : FnI} {fn : Func} {σ' : St} {r : AV} {ρ' : Env} {a' : Act} (h6 : trRes P fi.nt fn.results.toList = some fi.res) (hs : Step K K') (hrel : Rel K' σ') (hen : EnvR K' fi.nt ρ' a') (hres : result σ' ρ' fi.res = some r) :
    ∃ v, (results fn a'.tmps).run P K'.w = .ok v K'.w ∧ Came K σ' r (.returned v) K'.w := by
  unfold result at hres
  have key : ∀ vs, resultOf σ' ρ' fi.res = some vs → ∃ vals : List Value, VRs K' vs vals ∧ (results fn a'.tmps).run P K'.w = .ok (if h : vals.toArray.size = 1 then vals.toArray[0] else .tuple vals.toArray) K'.w := by
    intro vs hvs
    obtain ⟨vals, q1, q2⟩ := res_sound (P := P) hrel hen h6 hvs
    refine ⟨vals, q2, ?_⟩
    rw [results_eq, Sem.run_bind, Array.mapM_eq_mapM_toList, Sem.run_map, q1]
    rfl
  split at hres
  · rename_i v hv1
    simp only [Option.some.injEq] at hres; subst hres
    obtain ⟨vals, q1, q2⟩ := key _ hv1
    have hl1 : vals.length = 1 := by simpa using q1.1
    match vals, hl1 with
    | [v'], _ =>
      refine ⟨v', by simpa using q2, v', K', rfl, rfl, hs, hrel, ?_⟩
      exact q1.2 0 (by simp)
  · rename_i vs hne hv1
    simp only [Option.some.injEq] at hres; subst hres
    obtain ⟨vals, q1, q2⟩ := key _ hv1
    have hl1 : vals.toArray.size ≠ 1 := by
      intro e1
      have : vs.length = 1 := by rw [← q1.1]; simpa using e1
      match vs, this with
      | [v], _ => exact hne v rfl
    rw [dif_neg hl1] at q2
    refine ⟨_, q2, _, K', rfl, rfl, hs, hrel, ?_⟩
    exact .tup vals.toArray (by simpa using q1.1) fun j hj => by simpa using q1.2 j hj
  · simp at hres

theorem leave_marks {K : Ctx} {fi : FnI} {fn : Func} {σ' : St} {r : AV} {ρ' : Env} {a' : Act} (h6 : trRes P fi.nt fn.results.toList = some fi.res) (hres : result σ' ρ' fi.res = some r) : ∀ (Ds : List Nat) (K' : Ctx), Step K K' → Rel K' σ' → EnvR K' fi.nt ρ' a' → Marks K K' Ds →
    LeavesInM (FW none) 0 P fn a'.tmps (Came K σ' r) (Ds.map markOf) .returning K'.w
  | [], K', hs, hrel, hen, _ => by
    obtain ⟨v, h1, h2⟩ := out_sound h6 hs hrel hen hres
    exact ⟨v, h1, h2⟩
  | D :: Ds, K', hs, hrel, hen, hm => by
    have hb := hm.blk D (by simp)
    have hf := hm.free D (by simp)
    have hge := hm.ge D (by simp)
    have hnd := List.nodup_cons.1 hm.nd
    refine ⟨by simp, .inl ⟨D, (K'.close D).w, rfl, run_takeDeferred hb, ?_⟩⟩
    exact leave_marks h6 hres Ds (K'.close D) (hs.close hb hge) (hrel.close hb hf) ⟨hen.size, fun t ht => (hen.val t ht).close hb⟩
      ⟨hnd.2, fun E hE => hm.ge E (by simp [hE]), fun E hE => hm.free E (by simp [hE]), fun E hE => by
        rw [close_other E (by rintro rfl; exact hnd.1 hE)]; exact hm.blk E (by simp [hE])⟩

theorem body_sound {R : Runner} (hR : SoundR P R) {f : FuncId} {fi : FnI} (hf : FnOk P f fi) {args : List AV} {σ σ' : St} {r : AV} (h : bodyOf R fi args σ = some (r, σ')) {K : Ctx} {vargs : List Value} (hKt : K.tr = trF P) (hK : Rel K σ) (hv : VRs K args vargs) :
    Calls P f vargs.toArray K.w (Came K σ' r) := by
  obtain ⟨fn, code, h1, h2, h3, h4, h5, h6, h7⟩ := hf.is
  unfold bodyOf at h
  split at h
  · rename_i hlen
    refine callsIn_wide.1 (callsIn_of_wp_marks (F := FW none) (n := 0) h1 h3 trivial ?_ rfl)
    have hvl := hv.1
    have hρ : EnvR K fi.nt (initEnv args) { tmps := vargs.toArray ++ Array.replicate (fn.ntmps - vargs.toArray.size) undef, defers := [] } := by
      refine ⟨by simp; omega, fun t ht => ?_⟩
      simp only [initEnv, Array.getD_eq_getD_getElem?]
      by_cases htl : t < args.length
      · have := hv.2 t htl
        rw [Array.getElem?_append_left (by simp; omega)]
        simp only [List.getElem?_toArray, List.getD_eq_getElem?_getD, List.getElem?_eq_getElem htl, Option.getD_some]
        exact this
      · rw [Array.getElem?_append_right (by simp; omega)]
        have e1 : args.getD t (.tup []) = .tup [] := by simp [List.getD_eq_getElem?_getD, List.getElem?_eq_none (Nat.le_of_not_lt htl)]
        rw [e1]
        have : (Array.replicate (fn.ntmps - vargs.toArray.size) undef)[t - vargs.toArray.size]?.getD undef = undef := by
          cases hq : (Array.replicate (fn.ntmps - vargs.toArray.size) undef)[t - vargs.toArray.size]? with
          | none => rfl
          | some q => simp [Array.getElem?_replicate] at hq; simp [hq.2]
        rw [this]
        exact .tup #[] rfl (fun j hj => by simp at hj)
    have main : ∀ e ρ' , R fi.code (initEnv args) σ = some (e, ρ', σ') → (e = .normal ∨ e = .ret) → result σ' ρ' fi.res = some r →
        code.wpIn (FW none) 0 P (bodyPostM (FW none) 0 P fn (Came K σ' r)) { tmps := vargs.toArray ++ Array.replicate (fn.ntmps - vargs.toArray.size) undef, defers := [] } K.w := by
      intro e ρ' hr he hres
      rw [← h4] at hr
      refine wpIn_mono (hR none true fi.nt code _ σ e ρ' σ' (fun _ => rfl) hr K _ hKt hK hρ) fun ex a' w' hp => ?_
      obtain ⟨hex, K', Ds, rfl, hs, hrel, hen, hd, hmk⟩ := hp
      have out : LeavesInM (FW none) 0 P fn a'.tmps (Came K σ' r) a'.defers .returning K'.w := by
        rw [hd, List.append_nil]
        exact leave_marks h6 hres Ds K' hs hrel hen hmk
      cases ex <;> rcases he with rfl | rfl <;> simp only [exR] at hex <;> exact out
    split at h
    · rename_i ρ' σ1 hr
      simp only [Option.map_eq_some_iff, Prod.mk.injEq] at h
      obtain ⟨v, hv1, rfl, rfl⟩ := h
      exact main _ _ hr (.inl rfl) hv1
    · rename_i ρ' σ1 hr
      simp only [Option.map_eq_some_iff, Prod.mk.injEq] at h
      obtain ⟨v, hv1, rfl, rfl⟩ := h
      exact main _ _ hr (.inr rfl) hv1
    · simp at h
  · simp at h

end
end Go.Vm
