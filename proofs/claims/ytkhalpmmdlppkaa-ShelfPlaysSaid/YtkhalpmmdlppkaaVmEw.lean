/-
  THE GENERIC LAYER 'Vm', part Ew: bodies and calls that the kernel reckons; the program's own table; what is known of a function that is handed nothing.
-/
import Derived.Test.YtkhalpmmdlppkaaVmEv
namespace Go.Vm
open Classical

mutual
theorem same_eq : ∀ {x y : AV}, AV.same x y = true → x = y
  | .int k a, y, h => by cases y <;> simp [AV.same] at h ⊢; exact h
  | .bool a, y, h => by cases y <;> simp [AV.same] at h ⊢; exact h
  | .str a, y, h => by cases y <;> simp [AV.same] at h ⊢; exact h
  | .nilp, y, h => by cases y <;> simp [AV.same] at h ⊢
  | .nilsl, y, h => by cases y <;> simp [AV.same] at h ⊢
  | .esl, y, h => by cases y <;> simp [AV.same] at h ⊢
  | .nilm, y, h => by cases y <;> simp [AV.same] at h ⊢
  | .nilFunc, y, h => by cases y <;> simp [AV.same] at h ⊢
  | .nilIface, y, h => by cases y <;> simp [AV.same] at h ⊢
  | .func _ _ _, y, h => by cases y <;> simp [AV.same] at h
  | .imap _ _ _, y, h => by cases y <;> simp [AV.same] at h
  | .ptr i o, y, h => by cases y <;> simp [AV.same] at h ⊢; exact h
  | .map i, y, h => by cases y <;> simp [AV.same] at h ⊢; exact h
  | .sl i a b c d, y, h => by cases y <;> simp [AV.same] at h ⊢; obtain ⟨⟨⟨⟨h1, h2⟩, h3⟩, h4⟩, h5⟩ := h; exact ⟨h1, h2, h3, h4, h5⟩
  | .iptr f l o, y, h => by
    cases y <;> simp [AV.same] at h ⊢
    obtain ⟨⟨h1, h2⟩, h3⟩ := h; exact ⟨h1, sameL_eq h2, h3⟩
  | .isl f l n c, y, h => by
    cases y <;> simp [AV.same] at h ⊢
    obtain ⟨⟨⟨h1, h2⟩, h3⟩, h4⟩ := h; exact ⟨h1, sameL_eq h2, h3, h4⟩
  | .agg l, y, h => by cases y <;> simp [AV.same] at h ⊢; exact sameL_eq h
  | .tup l, y, h => by cases y <;> simp [AV.same] at h ⊢; exact sameL_eq h
  | .iface t x, y, h => by
    cases y <;> simp [AV.same] at h ⊢
    exact ⟨h.1, same_eq h.2⟩
theorem sameL_eq : ∀ {x y : List AV}, sameL x y = true → x = y
  | [], [], _ => rfl
  | [], _ :: _, h => by simp [sameL] at h
  | _ :: _, [], h => by simp [sameL] at h
  | x :: l, y :: m, h => by
    simp only [sameL, Bool.and_eq_true] at h
    rw [same_eq h.1, sameL_eq h.2]
end

/-- Does a look that may stand elsewhere meet there what it meets here? -/
def alikeC (E : CallC) (nt : Nat) (l : List DOp) (r : List AV) (s : HS) (q : Nat × Nat) : Bool :=
  match l[q.1]?, opsC E nt ((l.take q.1).map DOp.op) r s, opsC E nt ((l.take q.2).map DOp.op) r s with
  | some o, some (ri, si), some (_, sk) => match o.op.ins.evC E (nthA ri) si, o.op.ins.evC E (nthA ri) sk with
    | some (v, _), some (u, _) => AV.same v u
    | _, _ => false
  | _, _, _ => false

theorem alikeC_abs {T : Table} {E : CallC} {F : CallH} (hE : OkC E F) (hpure : ∀ f fi, T f = some fi → fi.hint = .pure → ∀ args σ r σ', F f args σ = some (r, σ') → σ' = σ) {nt : Nat} {l : List DOp} {r : List AV} {s : HS} (hl : r.length = nt) {q : Nat × Nat}
    (hq : q ∈ strays T l) (h : alikeC E nt l r s q = true) : Alike F l (nthA r) s.abs q := by
  unfold alikeC at h
  split at h <;> try simp only [Bool.false_eq_true] at h
  rename_i o ri si rk sk h1 h2 h3
  split at h <;> try simp only [Bool.false_eq_true] at h
  rename_i v sv u su h4 h5
  have hlook : o.op.ins.look T = true := by
    simp only [strays, List.mem_flatMap] at hq
    obtain ⟨⟨o', i⟩, hm, hq⟩ := hq
    split at hq
    · rename_i hc
      rw [List.mem_filterMap] at hq
      obtain ⟨k, _, hk⟩ := hq
      split at hk
      · simp only [Option.some.injEq] at hk
        subst hk
        have := List.mem_zipIdx_iff_getElem?.1 hm
        simp only at this h1
        rw [h1] at this
        simp only [Option.some.injEq] at this
        subst this
        simp only [Bool.and_eq_true] at hc
        exact hc.1
      · simp at hk
    · simp at hq
  have e := same_eq h
  subst e
  obtain ⟨g2, l2⟩ := opsC_abs hE hl h2
  obtain ⟨g3, l3⟩ := opsC_abs hE hl h3
  have g4 := evC_abs hE h4
  have g5 := evC_abs hE h5
  intro o' ρi σi ρk σk w q1 q2 q3 q4
  rw [h1] at q1
  simp only [Option.some.injEq] at q1; subst q1
  rw [g2] at q2; rw [g3] at q3
  simp only [Option.some.injEq, Prod.mk.injEq] at q2 q3
  obtain ⟨rfl, rfl⟩ := q2
  obtain ⟨rfl, rfl⟩ := q3
  rw [g4] at q4
  simp only [Option.some.injEq, Prod.mk.injEq] at q4
  obtain ⟨rfl, _⟩ := q4
  have := looks_keep hpure hlook g5
  rw [this] at g5; exact g5

abbrev RunC := Nat → C → List AV → HS → Option (Ex × List AV × HS)

def drawC (T : Table) (E : CallC) (nt : Nat) (l : List DOp) (r : List AV) (s : HS) : Option (List AV × HS) :=
  match drawOk T l && (strays T l).all (alikeC E nt l r s) with
  | true => opsC E nt (l.map DOp.op) r s
  | false => none

def bodyC (R : RunC) (fi : FnI) (args : List AV) (s : HS) : Option (AV × HS) :=
  match Nat.beq args.length fi.np && Nat.ble fi.np fi.nt with
  | true => match R fi.nt fi.code (args ++ List.replicate (fi.nt - fi.np) (.tup [])) s with
    | some (.normal, r, s') | some (.ret, r, s') => match result s'.abs (nthA r) fi.res with | some v => some (v, s') | none => none
    | _ => none
  | false => none

def setAll (r : List AV) : List Nat → List AV → List AV
  | t :: ts, v :: vs => setAll (setA r t v) ts vs
  | _, _ => r

/-- A round. -/
def roundC (R : RunC) (i : Id) (args : List AV) (s : HS) : Option (AV × HS) :=
  match s.at i with
  | some (.lp nt .ready _ r ps as body) =>
    match Nat.beq args.length ps.length && ps.all (fun t => Nat.blt t nt) && Nat.beq r.length nt with
    | true => match R nt as (setAll r ps args) s with
      | some (.normal, r2, s2) => match s2.at i with
        | some (.lp nt2 .ready pd2 rq ps2 as2 body2) =>
          match R nt body r2 (s2.set i (some (.lp nt2 .busy pd2 rq ps2 as2 body2))) with
          | some (e, _, s4) => match s4.at i with
            | some (.lp nt4 _ _ rp ps4 as4 body4) =>
              match e with
              | .normal => some (.bool true, s4.set i (some (.lp nt4 .ready none rp ps4 as4 body4)))
              | .ret => some (.bool false, s4.set i (some (.lp nt4 .done (some .ret) rp ps4 as4 body4)))
              | .exit id => some (.bool false, s4.set i (some (.lp nt4 .done (some (.exit id)) rp ps4 as4 body4)))
            | _ => none
          | none => none
        | _ => none
      | _ => none
    | false => none
  | _ => none

def endC (i : Id) (r : List AV) : Option (AV × HS) → Option (Ex × List AV × HS)
  | some (_, s2) => match s2.at i with
    | some (.lp _ st pd _ _ _ _) => (match st with | .busy => none | _ => some (pd.getD .normal, r, s2.set i none))
    | _ => none
  | none => none

def fnC (T : Table) (R : RunC) (f : FuncId) (args : List AV) (s : HS) : Option (AV × HS) :=
  match T f with
  | none => none
  | some fi => match fi.hint with
    | .raw => bodyC R fi args s
    | .pure => match args.mapM (snap s.abs depth) with
      | some args' => match bodyC R fi args' HS.zero with
        | some (r, s1) => match frz s1.abs 0 [] depth (fun _ _ => false) r with | some r' => some (r', s) | none => none
        | none => none
      | none => none
    | .known g => match g args with | some r => some (r, s) | none => none
    | .mut _ _ => none

def callC (T : Table) (R : RunC) : CallC := ⟨fnC T R, roundC R⟩

def runC (T : Table) : Nat → RunC
  | 0, _, _, _, _ => none
  | n + 1, nt, c, r, s => match c with
    | .skip => some (.normal, r, s)
    | .ops l => match opsC (callC T (runC T n)) nt l r s with | some (r', s') => some (.normal, r', s') | none => none
    | .draw l => match drawC T (callC T (runC T n)) nt l r s with | some (r', s') => some (.normal, r', s') | none => none
    | .seq a b => match runC T n nt a r s with
      | some (.normal, r', s') => runC T n nt b r' s'
      | x => x
    | .cond x a b => match x.get (nthA r) with
      | .bool true => runC T n nt a r s
      | .bool false => runC T n nt b r s
      | _ => none
    | .block id c => match runC T n nt c r s with
      | some (.exit id', r', s') => match Nat.beq id' id with | true => some (.normal, r', s') | false => some (.exit id', r', s')
      | x => x
    | .loop c => match runC T n nt c r s with
      | some (.normal, r', s') => runC T n nt (.loop c) r' s'
      | x => x
    | .rangeF x ps as body nt2 => match x.get (nthA r), Nat.beq nt2 nt with
      | .func (.func f) first capt, true => endC ⟨s.n, 0, 0⟩ r (callC T (runC T n) f (first ++ [.yld ⟨s.n, 0, 0⟩] ++ capt) (s.alloc (.lp nt2 .ready none r ps as body)))
      | _, _ => none
    | .exit id => some (.exit id, r, s)
    | .ret => some (.ret, r, s)
    | .no => none

section
variable {T : Table}

def OkR (T : Table) (R : RunC) : Prop := ∀ nt c r s e r' s', r.length = nt → R nt c r s = some (e, r', s') → run T c (nthA r) s.abs = some (e, nthA r', s'.abs) ∧ r'.length = nt

theorem bodyC_abs {R : RunC} (hR : OkR T R) {fi : FnI} {args : List AV} {s s' : HS} {v : AV} (h : bodyC R fi args s = some (v, s')) : bodyOf (run T) fi args s.abs = some (v, s'.abs) := by
  unfold bodyC at h
  split at h
  · rename_i hc
    simp only [Bool.and_eq_true, Nat.beq_eq, Nat.ble_eq] at hc
    have henv : nthA (args ++ List.replicate (fi.nt - fi.np) (.tup [])) = initEnv args := by
      funext t
      rw [nthA_getD, initEnv]
      simp only [List.getD_eq_getElem?_getD]
      by_cases ht : t < args.length
      · rw [List.getElem?_append_left ht]
      · rw [List.getElem?_append_right (by omega), List.getElem?_eq_none (l := args) (by omega), List.getElem?_replicate]
        split <;> rfl
    have hlen : (args ++ List.replicate (fi.nt - fi.np) (AV.tup [])).length = fi.nt := by simp; omega
    have main : ∀ e r s1, R fi.nt fi.code (args ++ List.replicate (fi.nt - fi.np) (.tup [])) s = some (e, r, s1) → (e = .normal ∨ e = .ret) → (match result s1.abs (nthA r) fi.res with | some v => some (v, s1) | none => none) = some (v, s') →
        bodyOf (run T) fi args s.abs = some (v, s'.abs) := by
      intro e r s1 h1 he h2
      split at h2
      · rename_i u hu
        simp only [Option.some.injEq, Prod.mk.injEq] at h2; obtain ⟨rfl, rfl⟩ := h2
        obtain ⟨g1, _⟩ := hR _ _ _ _ _ _ _ hlen h1
        rw [henv] at g1
        unfold bodyOf
        rw [if_pos hc.1, g1]
        rcases he with rfl | rfl <;> simp only [hu, Option.map_some]
      · simp at h2
    split at h
    · rename_i r s1 h1; exact main _ r s1 h1 (.inl rfl) h
    · rename_i r s1 h1; exact main _ r s1 h1 (.inr rfl) h
    · simp at h
  · simp at h

theorem setAll_abs {nt : Nat} : ∀ (ps : List Nat) (args : List AV) (r : List AV), r.length = nt → ps.all (fun t => Nat.blt t nt) = true → nthA (setAll r ps args) = putAll (nthA r) ps args ∧ (setAll r ps args).length = nt
  | [], args, r, hl, _ => by cases args <;> exact ⟨rfl, hl⟩
  | p :: ps, [], r, hl, _ => ⟨rfl, hl⟩
  | p :: ps, a :: args, r, hl, hp => by
    simp only [List.all_cons, Bool.and_eq_true, Nat.blt_eq] at hp
    simp only [setAll, putAll]
    have e : (fun u => if u = p then a else nthA r u) = nthA (setA r p a) := by
      funext u; rw [nth_setA (by omega)]
    rw [e]
    exact setAll_abs ps args (setA r p a) (by rw [setA_len]; exact hl) hp.2

theorem at_heap {s : HS} {i : Id} {x : HB} (h : s.at i = some x) : s.abs.heap i = some x.toB := by rw [abs_heap, h]; rfl

theorem roundC_abs {R : RunC} (hR : OkR T R) (i : Id) (args : List AV) (s : HS) (v : AV) (s' : HS) (h : roundC R i args s = some (v, s')) : roundOf (run T) i args s.abs = some (v, s'.abs) := by
  unfold roundC at h
  split at h <;> try simp only [reduceCtorEq] at h
  rename_i nt pd r ps as body h0
  split at h <;> try simp only [reduceCtorEq] at h
  rename_i hc
  simp only [Bool.and_eq_true, Nat.beq_eq] at hc
  obtain ⟨⟨c1, c2⟩, c3⟩ := hc
  split at h <;> try simp only [reduceCtorEq] at h
  rename_i r2 s2 h1
  split at h <;> try simp only [reduceCtorEq] at h
  rename_i nt2 pd2 rq ps2 as2 body2 h2
  split at h <;> try simp only [reduceCtorEq] at h
  rename_i e r4 s4 h3
  split at h <;> try simp only [reduceCtorEq] at h
  rename_i nt4 st4 pd4 rp ps4 as4 body4 h4
  obtain ⟨g1, g2⟩ := setAll_abs ps args r c3 c2
  obtain ⟨k1, k2⟩ := hR _ _ _ _ _ _ _ g2 h1
  obtain ⟨k3, _⟩ := hR _ _ _ _ _ _ _ k2 h3
  rw [g1] at k1
  have a0 := at_heap h0
  have a2 := at_heap h2
  have a4 := at_heap h4
  rw [abs_set a2] at k3
  have hall : ps.all (fun t => decide (t < nt)) = true := by
    rw [List.all_eq_true] at c2 ⊢
    intro t ht
    have := c2 t ht
    rw [Nat.blt_eq] at this
    simpa using this
  unfold roundOf
  simp only [a0, HB.toB]
  rw [if_pos ⟨c1, hall⟩, k1]
  simp only [a2, HB.toB]
  simp only [Option.map_some, HB.toB] at k3
  rw [k3]
  simp only [a4, HB.toB]
  cases e <;> simp only [Option.some.injEq, Prod.mk.injEq] at h <;> obtain ⟨rfl, rfl⟩ := h <;> rw [abs_set a4] <;> rfl

theorem endC_abs {i : Id} {r r' : List AV} {q : Option (AV × HS)} {e : Ex} {s' : HS} (h : endC i r q = some (e, r', s')) : r' = r ∧ loopEnd i (nthA r) (q.map fun p => (p.1, p.2.abs)) = some (e, nthA r', s'.abs) := by
  unfold endC at h
  split at h
  · rename_i v s2
    split at h
    · rename_i nt st pd r0 ps as body h0
      have a0 := at_heap h0
      have main : st ≠ .busy → (e, r', s') = (pd.getD .normal, r, s2.set i none) → r' = r ∧ loopEnd i (nthA r) (some (v, s2.abs)) = some (e, nthA r', s'.abs) := by
        intro hst he
        simp only [Prod.mk.injEq] at he
        obtain ⟨rfl, rfl, rfl⟩ := he
        refine ⟨rfl, ?_⟩
        simp only [loopEnd, a0, HB.toB]
        rw [if_neg hst, abs_set a0]; rfl
      split at h
      · simp at h
      · rename_i hst
        simp only [Option.some.injEq] at h
        exact main hst h.symm
    · simp at h
  · simp at h

theorem callC_abs {R : RunC} (hR : OkR T R) : OkC (callC T R) (ev T) := by
  refine ⟨?_, roundC_abs hR⟩
  intro f args s r s' h
  change fnC T R f args s = _ at h
  change fnOf T (run T) f args s.abs = _
  unfold fnC at h
  unfold fnOf
  split at h
  · simp at h
  · rename_i fi hfi
    simp only [hfi]
    split at h
    · rename_i hh
      simp only [hh]
      exact bodyC_abs hR h
    · rename_i hh
      simp only [hh]
      split at h
      · rename_i args' ha
        split at h
        · rename_i r1 s1 hb
          split at h
          · rename_i r2 hf
            simp only [Option.some.injEq, Prod.mk.injEq] at h; obtain ⟨rfl, rfl⟩ := h
            have hb' := bodyC_abs hR hb
            rw [abs_zero] at hb'
            simp only [ha, Option.bind_some, pureOf, hb', hf, Option.map_some]
          · simp at h
        · simp at h
      · simp at h
    · rename_i g hh
      simp only [hh]
      split at h
      · rename_i r1 hg
        simp only [Option.some.injEq, Prod.mk.injEq] at h; obtain ⟨rfl, rfl⟩ := h
        simp only [hg, Option.map_some]
      · simp at h
    · simp at h

theorem drawC_abs {E : CallC} (hE : OkC E (ev T)) {nt : Nat} {l : List DOp} {r r' : List AV} {s s' : HS} (hl : r.length = nt) (h : drawC T E nt l r s = some (r', s')) : run T (.draw l) (nthA r) s.abs = some (.normal, nthA r', s'.abs) ∧ r'.length = nt := by
  unfold drawC at h
  split at h
  · rename_i hc
    rw [Bool.and_eq_true, List.all_eq_true] at hc
    obtain ⟨h1, h2⟩ := opsC_abs hE hl h
    refine ⟨?_, h2⟩
    exact go_but hc.1 (fun q hq => alikeC_abs hE callOf_pure hl hq (hc.2 q hq)) h1
  · simp at h

theorem runC_abs : ∀ n, OkR T (runC T n) := by
  intro n
  induction n with
  | zero => intro nt c r s e r' s' hl h; simp [runC] at h
  | succ n ih =>
    have hE := callC_abs ih
    intro nt c r s e r' s' hl h
    cases c with
    | skip => simp only [runC, Option.some.injEq, Prod.mk.injEq] at h; obtain ⟨rfl, rfl, rfl⟩ := h; exact ⟨run_skip, hl⟩
    | ops l =>
      simp only [runC] at h
      split at h
      · rename_i r1 s1 h1
        simp only [Option.some.injEq, Prod.mk.injEq] at h; obtain ⟨rfl, rfl, rfl⟩ := h
        obtain ⟨g1, g2⟩ := opsC_abs hE hl h1
        exact ⟨by rw [go_ops, g1]; rfl, g2⟩
      · simp at h
    | draw l =>
      simp only [runC] at h
      split at h
      · rename_i r1 s1 h1
        simp only [Option.some.injEq, Prod.mk.injEq] at h; obtain ⟨rfl, rfl, rfl⟩ := h
        exact drawC_abs hE hl h1
      · simp at h
    | seq a b =>
      simp only [runC] at h
      rw [run_seq]
      split at h
      · rename_i r1 s1 h1
        obtain ⟨g1, g2⟩ := ih _ _ _ _ _ _ _ hl h1
        rw [g1]
        exact ih _ _ _ _ _ _ _ g2 h
      · rename_i hne
        obtain ⟨g1, g2⟩ := ih _ _ _ _ _ _ _ hl h
        rw [g1]
        refine ⟨?_, g2⟩
        cases e <;> first | rfl | exact absurd h (hne _ _)
    | cond x a b =>
      simp only [runC] at h
      rw [run_cond]
      split at h
      · rename_i hx; rw [hx]; exact ih _ _ _ _ _ _ _ hl h
      · rename_i hx; rw [hx]; exact ih _ _ _ _ _ _ _ hl h
      · simp at h
    | block id c =>
      simp only [runC] at h
      rw [run_block]
      split at h
      · rename_i id' r1 s1 h1
        obtain ⟨g1, g2⟩ := ih _ _ _ _ _ _ _ hl h1
        rw [g1]
        split at h
        · rename_i hid
          simp only [Nat.beq_eq] at hid
          simp only [Option.some.injEq, Prod.mk.injEq] at h; obtain ⟨rfl, rfl, rfl⟩ := h
          exact ⟨by simp [inBlk, hid], g2⟩
        · rename_i hid
          have hid : ¬ id' = id := by
            intro e; subst e; simp at hid
          simp only [Option.some.injEq, Prod.mk.injEq] at h; obtain ⟨rfl, rfl, rfl⟩ := h
          exact ⟨by simp [inBlk, hid], g2⟩
      · rename_i hne
        obtain ⟨g1, g2⟩ := ih _ _ _ _ _ _ _ hl h
        rw [g1]
        refine ⟨?_, g2⟩
        cases e <;> first | rfl | exact absurd h (hne _ _ _)
    | loop c =>
      simp only [runC] at h
      rw [run_loop]
      split at h
      · rename_i r1 s1 h1
        obtain ⟨g1, g2⟩ := ih _ _ _ _ _ _ _ hl h1
        rw [g1]
        exact ih _ _ _ _ _ _ _ g2 h
      · rename_i hne
        obtain ⟨g1, g2⟩ := ih _ _ _ _ _ _ _ hl h
        rw [g1]
        refine ⟨?_, g2⟩
        cases e <;> first | rfl | exact absurd h (hne _ _)
    | rangeF x ps as body nt2 =>
      simp only [runC] at h
      split at h <;> try simp only [reduceCtorEq] at h
      rename_i f first capt hx hnt
      obtain ⟨rfl, g⟩ := endC_abs h
      refine ⟨?_, hl⟩
      rw [run_rangeF, hx]
      simp only
      have ea := abs_alloc s (.lp nt2 .ready none r' ps as body)
      simp only [HB.toB] at ea
      rw [ea]
      simp only
      cases hq : callC T (runC T n) f (first ++ [.yld ⟨s.n, 0, 0⟩] ++ capt) (s.alloc (.lp nt2 .ready none r' ps as body)) with
      | none => rw [hq] at g; simp [loopEnd] at g
      | some q =>
        obtain ⟨v, s2⟩ := q
        rw [hq] at g
        have hn : s.abs.next = s.n := rfl
        rw [hn, hE.fn _ _ _ _ _ hq]
        exact g
    | exit id => simp only [runC, Option.some.injEq, Prod.mk.injEq] at h; obtain ⟨rfl, rfl, rfl⟩ := h; exact ⟨run_exit _, hl⟩
    | ret => simp only [runC, Option.some.injEq, Prod.mk.injEq] at h; obtain ⟨rfl, rfl, rfl⟩ := h; exact ⟨run_ret, hl⟩
    | no => simp [runC] at h
end

/-! ### the program's own table -/

def autoFn (P : Program) (h : Hint) (fn : Func) : Option FnI :=
  match fn.body, trRes P fn.ntmps fn.results.toList with
  | some code, some res => if fn.name ≠ "runtime.NumGoroutine" ∧ fn.params.size + fn.nfree ≤ fn.ntmps then some ⟨fn.ntmps, fn.params.size + fn.nfree, trC P fn.ntmps true code, res, h⟩ else none
  | _, _ => none
def auto (P : Program) (h : FuncId → Hint) : Table := fun f => match P.funcs[f]? with
  | some fn => autoFn P (h f) fn
  | none => none

theorem auto_ok {P : Program} {h : FuncId → Hint} (hk : ∀ f g, h f = .known g → Known P f g) : ∀ f fi, auto P h f = some fi → FnOk P f fi := by
  intro f fi hf
  unfold auto at hf
  split at hf
  · rename_i fn hfn
    unfold autoFn at hf
    split at hf
    · rename_i code res hb hr
      split at hf
      · rename_i hc
        simp only [Option.some.injEq] at hf; subst hf
        exact ⟨hk f, fn, code, hfn, hc.1, hb, rfl, rfl, hr, hc.2⟩
      · simp at hf
    · simp at hf
  · simp at hf

theorem known_ev {P : Program} {T : Table} (hS : SoundE P (ev T)) {f : FuncId} {g : List AV → Option AV} (h : ∀ args r, g args = some r → ∀ σ, ev T f args σ = some (r, σ)) : Known P f g := by
  intro args r hg K σ vargs hKt hK hv
  exact (hS.fn f args σ r σ (h args r hg σ)).2 K vargs hKt hK hv

/-- What gives v when it is handed nothing. -/
def just (v : AV) : List AV → Option AV
  | [] => some v
  | _ => none

/-- A function that is handed nothing, reckoned. -/
theorem known_just {P : Program} {T : Table} (hm : P.follows .mixedOrders = true) (hT : ∀ f fi, T f = some fi → FnOk P f fi) {f : FuncId} {n : Nat} {v : AV} {fi : FnI} (hf : T f = some fi) (hh : fi.hint = .pure) {s : HS}
    (hr : callC T (runC T n) f [] HS.zero = some (v, s)) : Known P f (just v) := by
  refine known_ev (ev_sound hm hT) fun args r hg σ => ?_
  have h1 := (callC_abs (runC_abs n)).fn _ _ _ _ _ hr
  cases args with
  | cons a l => simp [just] at hg
  | nil =>
    simp only [just, Option.some.injEq] at hg; subst hg
    simp only [ev, callOf, fnOf, hf, hh, List.mapM_nil, Option.pure_def, Option.bind_some, Option.map_eq_some_iff, Prod.mk.injEq] at h1 ⊢
    obtain ⟨x, hx, rfl, _⟩ := h1
    exact ⟨x, hx, rfl, trivial⟩
end Go.Vm
