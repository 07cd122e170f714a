/-
  THE GENERIC LAYER 'Vm', part P: the theorem on regions whose order is open, its proof.
-/
import Derived.Test.YtkhalpmmdlppkaaVmO
namespace Go.Vm
open Classical

theorem filter_lt {α : Type} (q q' : α → Bool) : ∀ l : List α, (∀ x ∈ l, q' x = true → q x = true) → (∃ x ∈ l, q x = true ∧ q' x = false) → (l.filter q').length < (l.filter q).length
  | [], _, h => by simp at h
  | x :: l, hi, h => by
    have hle : (l.filter q').length ≤ (l.filter q).length := by
      have : ∀ l : List α, (∀ x ∈ l, q' x = true → q x = true) → (l.filter q').length ≤ (l.filter q).length := by
        intro l
        induction l with
        | nil => simp
        | cons y l ih =>
          intro hi
          have h1 := ih fun x hx => hi x (by simp [hx])
          by_cases hq' : q' y = true
          · simp [hq', hi y (by simp) hq', h1]
          · simp only [List.filter_cons, hq', Bool.false_eq_true, if_false]
            split
            · simp; omega
            · exact h1
      exact this l fun x hx => hi x (by simp [hx])
    by_cases hx : q x = true ∧ q' x = false
    · simp [hx.1, hx.2]; omega
    · have hex : ∃ y ∈ l, q y = true ∧ q' y = false := by
        obtain ⟨y, hy, h1⟩ := h
        simp only [List.mem_cons] at hy
        rcases hy with rfl | hy
        · exact absurd h1 hx
        · exact ⟨y, hy, h1⟩
      have ih := filter_lt q q' l (fun x hx => hi x (by simp [hx])) hex
      by_cases hq' : q' x = true
      · simp [hq', hi x (by simp) hq', ih]
      · have hq : ¬ q x = true := fun h1 => hx ⟨h1, by simpa using hq'⟩
        simp [hq', hq, ih]

theorem nodup_spec {l : List DOp} (h : natsNodup (l.filterMap fun o => o.op.dst) = true) : ∀ (i j : Nat) (o p : DOp) (d : Nat), l[i]? = some o → l[j]? = some p → o.op.dst = some d → p.op.dst = some d → i = j := by
  induction l with
  | nil => intro i j o p d h1; simp at h1
  | cons x l ih =>
    have hmem : ∀ (l : List DOp) (j : Nat) (p : DOp) (d : Nat), l[j]? = some p → p.op.dst = some d → d ∈ l.filterMap fun o => o.op.dst := by
      intro l j p d h1 h2
      exact List.mem_filterMap.2 ⟨p, List.mem_of_getElem? h1, h2⟩
    have htail : natsNodup (l.filterMap fun o => o.op.dst) = true ∧ ∀ d, x.op.dst = some d → ¬ d ∈ l.filterMap fun o => o.op.dst := by
      rw [List.filterMap_cons] at h
      cases hx : x.op.dst with
      | none => rw [hx] at h; exact ⟨h, fun d hd => by simp at hd⟩
      | some d =>
        rw [hx] at h
        simp only [natsNodup, Bool.and_eq_true, Bool.not_eq_true', List.contains_eq_mem, decide_eq_false_iff_not] at h
        exact ⟨h.2, fun d' hd => by simp only [Option.some.injEq] at hd; subst hd; exact h.1⟩
    intro i j o p d h1 h2 h3 h4
    cases i with
    | zero =>
      simp only [List.getElem?_cons_zero, Option.some.injEq] at h1; subst h1
      cases j with
      | zero => rfl
      | succ j => exact absurd (hmem l j p d (by simpa using h2) h4) (htail.2 d h3)
    | succ i =>
      cases j with
      | zero =>
        simp only [List.getElem?_cons_zero, Option.some.injEq] at h2; subst h2
        exact absurd (hmem l i o d (by simpa using h1) h3) (htail.2 d h4)
      | succ j => rw [ih htail.1 i j o p d (by simpa using h1) (by simpa using h2) h3 h4]

structure DrawFacts (T : Table) (l : List DOp) : Prop where
  nodup : ∀ (i j : Nat) (o p : DOp) (d : Nat), l[i]? = some o → l[j]? = some p → o.op.dst = some d → p.op.dst = some d → i = j
  lt : ∀ (i : Nat) (o : DOp) (p : Nat), l[i]? = some o → p ∈ o.pre → p < i
  reads : ∀ (i j : Nat) (o p : DOp) (d : Nat), l[i]? = some o → l[j]? = some p → p.op.dst = some d → d ∈ o.op.reads → j ≠ i ∧ (j ∈ o.pre ∨ i ∈ p.pre)
  loud : ∀ (i j : Nat) (o p : DOp), l[i]? = some o → l[j]? = some p → j < i → p.op.ins.look T = false → o.op.ins.look T = false → j ∈ o.pre

theorem drawOk_facts {T : Table} {l : List DOp} (h : drawOk T l = true) : DrawFacts T l := by
  unfold drawOk at h
  rw [Bool.and_eq_true] at h
  obtain ⟨h1, h2⟩ := h
  rw [List.all_eq_true] at h2
  have key : ∀ (i : Nat) (o : DOp), l[i]? = some o → (∀ p ∈ o.pre, p < i) ∧ ∀ (j : Nat) (p : DOp), l[j]? = some p →
      ((match p.op.dst with | some d => if o.op.reads.contains d then j != i && (o.pre.contains j || p.pre.contains i) else true | none => true) = true) ∧
      ((if j < i && !p.op.ins.look T && !o.op.ins.look T then o.pre.contains j else true) = true) := by
    intro i o ho
    have := h2 (o, i) (List.mk_mem_zipIdx_iff_getElem?.2 ho)
    simp only [Bool.and_eq_true, List.all_eq_true] at this
    refine ⟨fun p hp => by have := this.1 p hp; simpa using this, fun j p hp => ?_⟩
    have := this.2 (p, j) (List.mk_mem_zipIdx_iff_getElem?.2 hp)
    simp only at this
    exact ⟨this.1.1, by simpa using this.1.2⟩
  refine ⟨nodup_spec h1, fun i o p ho hp => (key i o ho).1 p hp, fun i j o p d ho hp hd hr => ?_, fun i j o p ho hp hlt hpl hol => ?_⟩
  · have := ((key i o ho).2 j p hp).1
    rw [hd] at this
    simp only [List.contains_eq_mem, hr, decide_true, if_true, Bool.and_eq_true, bne_iff_ne, ne_eq, Bool.or_eq_true, decide_eq_true_eq] at this
    exact this
  · have := ((key i o ho).2 j p hp).2
    simpa [hlt, hpl, hol] using this

theorem reads_arg {o : Op} {y : Arg} {n : Nat} (hy : y ∈ o.ins.args) (e : y = .t n) : n ∈ o.reads := by
  unfold Op.reads
  refine List.mem_append_left _ (List.mem_filterMap.2 ⟨y, hy, by rw [e]⟩)

theorem wanted_congr {o : Op} {ρ ρ' : Env} (h : ∀ t ∈ o.reads, ρ t = ρ' t) : wanted ρ o.guard = wanted ρ' o.guard := by
  cases hg : o.guard with
  | none => rfl
  | some p =>
    obtain ⟨t, b⟩ := p
    have : t ∈ o.reads := by unfold Op.reads; rw [hg]; simp
    simp only [wanted, h t this]

theorem args_congr {o : Op} {ρ ρ' : Env} (h : ∀ t ∈ o.reads, ρ t = ρ' t) : ∀ y ∈ o.ins.args, y.get ρ = y.get ρ' := by
  intro y hy
  cases y with
  | t n => exact h n (reads_arg hy rfl)
  | c v => rfl

section
variable {P : Program}

theorem trDraw_get {nt : Nat} {ops : Array Oper} {i : Nat} {d : DOp} (h : (trDraw P nt ops)[i]? = some d) : ∃ o, ops[i]? = some o ∧ d.op = trOp P nt ops o := by
  unfold trDraw at h
  rw [List.getElem?_map] at h
  simp only [Option.map_eq_some_iff] at h
  obtain ⟨⟨o, p⟩, h1, rfl⟩ := h
  rw [List.getElem?_zip_eq_some] at h1
  exact ⟨o, by simpa using h1.1, rfl⟩

theorem ready_iff {md : Region.Mode} {ops : Array Oper} {listed : Array Bool} {i : Nat} : i ∈ Region.ready md ops listed ↔
    ∃ o, ops[i]? = some o ∧ listed.getD i true = false ∧ ∀ e ∈ o.after.toList, Region.binds md e = true → listed.getD e.on false = true := by
  unfold Region.ready
  rw [List.mem_filter, List.mem_range]
  constructor
  · rintro ⟨h1, h2⟩
    rw [Bool.and_eq_true] at h2
    obtain ⟨h2, h3⟩ := h2
    refine ⟨ops[i], by simp [h1], by simpa using h2, fun e he hb => ?_⟩
    simp only [Array.getElem?_eq_getElem h1, Option.map_some, Option.getD_some, Array.all_eq_true_iff_forall_mem] at h3
    have := h3 e (by simpa using he)
    simpa [hb] using this
  · rintro ⟨o, h1, h2, h3⟩
    have hlt : i < ops.size := by
      rcases Nat.lt_or_ge i ops.size with h | h
      · exact h
      · rw [Array.getElem?_eq_none h] at h1; simp at h1
    refine ⟨hlt, ?_⟩
    rw [Bool.and_eq_true]
    refine ⟨by simpa using h2, ?_⟩
    rw [h1]
    simp only [Option.map_some, Option.getD_some, Array.all_eq_true_iff_forall_mem]
    intro e he
    by_cases hb : Region.binds md e = true
    · have := h3 e (by simpa using he) hb
      simp [hb, this]
    · simp [hb]


theorem predsOk_facts {ops : Array Oper} {l : List DOp} (h : predsOk ops l = true) : l.length = ops.size ∧
    ∀ (i : Nat) (o : Oper) (d : DOp), ops[i]? = some o → l[i]? = some d → (∀ e ∈ o.after.toList, Region.binds .any e = true → e.on < i) ∧
      ∀ p ∈ d.pre, ∃ e ∈ o.after.toList, Region.binds .any e = true ∧ (e.on = p ∨ ∃ d', l[e.on]? = some d' ∧ p ∈ d'.pre) := by
  unfold predsOk at h
  rw [Bool.and_eq_true] at h
  obtain ⟨h1, h2⟩ := h
  refine ⟨by simpa using h1, fun i o d ho hd => ?_⟩
  rw [List.all_eq_true] at h2
  have hz : (ops.toList.zip l)[i]? = some (o, d) := List.getElem?_zip_eq_some.2 ⟨by simpa using ho, hd⟩
  have := h2 ((o, d), i) (List.mk_mem_zipIdx_iff_getElem?.2 hz)
  simp only [Bool.and_eq_true, List.all_eq_true, List.mem_filter, decide_eq_true_eq, List.any_eq_true] at this
  refine ⟨fun e he hb => this.1 e ⟨he, hb⟩, fun p hp => ?_⟩
  obtain ⟨e, ⟨he, hb⟩, h3⟩ := this.2 p hp
  refine ⟨e, he, hb, ?_⟩
  rw [Bool.or_eq_true] at h3
  rcases h3 with h3 | h3
  · exact .inl (by simpa using h3)
  · right
    cases hl : l[e.on]? with
    | none => rw [hl] at h3; simp at h3
    | some d' => rw [hl] at h3; exact ⟨d', rfl, by simpa using h3⟩

theorem getD_set {listed : Array Bool} {i : Nat} (hi : i < listed.size) (j : Nat) (b : Bool) : (listed.setIfInBounds i true).getD j b = if j = i then true else listed.getD j b := by
  simp only [Array.getD_eq_getD_getElem?, Array.getElem?_setIfInBounds]
  by_cases h : j = i
  · subst h; simp [hi]
  · have h' : ¬ i = j := fun e => h e.symm
    simp [h, h']

theorem draw_sound {tr : Nat → Code → C} {ro : Option Nat} {E : CallH} {T : Table} (hE : SoundT P tr E) (hpure : ∀ f fi, T f = some fi → fi.hint = .pure → ∀ args σ r σ', E f args σ = some (r, σ') → σ' = σ) (hm : P.follows .mixedOrders = true)
    {ops : Array Oper} {nt : Nat} (hpo : predsOk ops (trDraw P nt ops) = true) {K : Ctx} {σ σ' : St} {ρ ρ' : Env} {a : Act} (hKt : K.tr = tr) (hK : Rel K σ) (hρ : EnvR K nt ρ a)
    (h : drawEv E T (trDraw P nt ops) ρ σ = some (ρ', σ')) {id : Nat} {Q : Exit → Act → World → Prop}
    (hn : ∀ K' a', Step K K' → Rel K' σ' → EnvR K' nt ρ' a' → a'.defers = a.defers → Q .normal a' K'.w) : (Code.region id ops true).wpIn (FW ro) 0 P Q a K.w := by
  unfold drawEv at h
  split at h
  · rename_i ts ρ2 σ2 htr
    split at h
    · rename_i hc
      simp only [Option.some.injEq, Prod.mk.injEq] at h
      obtain ⟨rfl, rfl⟩ := h
      obtain ⟨hok, hlooks⟩ := hc
      obtain ⟨hlen, hpre⟩ := predsOk_facts hpo
      have F := drawOk_facts hok
      obtain ⟨htl, henv, htenv⟩ := trace_env _ _ _ _ _ _ htr
      have hst := trace_st _ _ _ _ _ _ htr
      generalize hl : trDraw P nt ops = l at *
      have hget : ∀ (i : Nat) (d : DOp), l[i]? = some d → ∃ o, ops[i]? = some o ∧ d.op = trOp P nt ops o := fun i d hd => trDraw_get (by rw [hl]; exact hd)
      -- how states lie beside each other
      have hsame : ∀ (i : Nat) (d : DOp), l[i]? = some d → d.op.ins.look T = true ∨ (∀ t, ts[i]? = some t → wanted t.ρ d.op.guard = false) → stAt ts σ2 (i + 1) = stAt ts σ2 i := by
        intro i d hd hor
        have hlt : i < ts.length := by rw [htl]; exact (List.getElem?_eq_some_iff.1 hd).1
        have ht : ts[i]? = some ts[i] := List.getElem?_eq_getElem hlt
        obtain ⟨s1, s2⟩ := hst i d ts[i] hd ht
        have e0 : stAt ts σ2 i = ts[i].σ := by simp [stAt, ht]
        rw [e0]
        by_cases hw : wanted ts[i].ρ d.op.guard = true
        · rcases hor with hlk | hun
          · exact looks_keep hpure hlk (s1 hw)
          · rw [hun _ ht] at hw; simp at hw
        · exact (s2 (by simpa using hw)).2
      have hn' : stAt ts σ2 ops.size = σ2 := by
        have : ts[ops.size]? = none := List.getElem?_eq_none (by omega)
        simp [stAt, this]
      have hrun : ∀ k m, k ≤ m → m ≤ ops.size → (∀ (i : Nat) (d : DOp), k ≤ i → i < m → l[i]? = some d → d.op.ins.look T = true) → stAt ts σ2 m = stAt ts σ2 k := by
        intro k m hkm
        induction m with
        | zero => intro _ _; have : k = 0 := by omega
                  subst this; rfl
        | succ m ih =>
          intro hm hq
          by_cases hk : k = m + 1
          · subst hk; rfl
          · have hlt : m < l.length := by omega
            have hd : l[m]? = some l[m] := List.getElem?_eq_getElem hlt
            rw [hsame m _ hd (.inl (hq m _ (by omega) (by omega) hd))]
            exact ih (by omega) (by omega) fun i d h1 h2 h3 => hq i d h1 (by omega) h3
      have key : ∀ (fuel : Nat) (listed : Array Bool) (K' : Ctx) (a' : Act) (k : Nat), ((List.range ops.size).filter fun i => !listed.getD i true).length ≤ fuel → listed.size = ops.size →
          (∀ (i : Nat) (d : DOp), l[i]? = some d → listed.getD i false = true → ∀ p ∈ d.pre, listed.getD p false = true) → EnvR K' nt (envSel l ts (fun i => listed.getD i false) 0 ρ) a' →
          k ≤ ops.size → Rel K' (stAt ts σ2 k) → (∀ (j : Nat) (d : DOp), l[j]? = some d → d.op.ins.look T = false → (listed.getD j false = true ↔ j < k)) → a'.defers = a.defers → Step K K' →
          wpAnyIn (FW ro) 0 P .any ops Q fuel listed a' K'.w := by
        have done : ∀ (listed : Array Bool) (K' : Ctx) (a' : Act) (k : Nat), (∀ i, i < ops.size → listed.getD i true = true) → listed.size = ops.size →
            EnvR K' nt (envSel l ts (fun i => listed.getD i false) 0 ρ) a' → k ≤ ops.size → Rel K' (stAt ts σ2 k) → (∀ (j : Nat) (d : DOp), l[j]? = some d → d.op.ins.look T = false → (listed.getD j false = true ↔ j < k)) →
            a'.defers = a.defers → Step K K' → Q .normal a' K'.w := by
          intro listed K' a' k hall hsz hen hk hrel hld hdf hstp
          have hall' : ∀ i, i < ops.size → listed.getD i false = true := fun i hi => by
            have := hall i hi
            simpa [Array.getD_eq_getD_getElem?, Array.getElem?_eq_getElem (show i < listed.size by omega)] using this
          have e1 : stAt ts σ2 k = σ2 := by
            refine (hrun k ops.size hk (Nat.le_refl _) fun i d h1 h2 h3 => ?_).symm.trans hn'
            rcases hb : d.op.ins.look T with _ | _
            · have := (hld i d h3 hb).1 (hall' i h2); omega
            · rfl
          have e2 : envSel l ts (fun i => listed.getD i false) 0 ρ = ρ2 := by
            rw [henv]; funext t
            refine envSel_congr l ts _ _ 0 ρ ρ t rfl fun j o ho _ => ?_
            have : j < l.length := (List.getElem?_eq_some_iff.1 ho).1
            simpa using hall' j (by omega)
          exact hn K' a' hstp (e1 ▸ hrel) (e2 ▸ hen) hdf
        intro fuel
        induction fuel with
        | zero =>
          intro listed K' a' k hcnt hsz hcl hen hk hrel hld hdf hstp
          have hall : ∀ i, i < ops.size → listed.getD i true = true := by
            intro i hi
            rcases hb : listed.getD i true with _ | _
            · have : i ∈ (List.range ops.size).filter fun i => !listed.getD i true := List.mem_filter.2 ⟨List.mem_range.2 hi, by rw [hb]; rfl⟩
              have := List.length_pos_of_mem this
              omega
            · rfl
          refine ⟨?_, done listed K' a' k hall hsz hen hk hrel hld hdf hstp⟩
          rw [List.eq_nil_iff_forall_not_mem]
          intro i hi
          obtain ⟨o, h1, h2, _⟩ := ready_iff.1 hi
          have hlt : i < ops.size := (Array.getElem?_eq_some_iff.1 h1).1
          rw [hall i hlt] at h2; simp at h2
        | succ fuel ih =>
          intro listed K' a' k hcnt hsz hcl hen hk hrel hld hdf hstp
          refine ⟨fun hnil => done listed K' a' k ?_ hsz hen hk hrel hld hdf hstp, fun i hi => ?_⟩
          · -- nobody is ready: all have run
            intro i hi
            induction i using Nat.strongRecOn with
            | _ i ihi =>
            rcases hb : listed.getD i true with _ | _
            · exfalso
              have hmem : i ∈ Region.ready .any ops listed := by
                refine ready_iff.2 ⟨ops[i], by simp [hi], hb, fun e he hbd => ?_⟩
                have hil : i < l.length := by omega
                have := (hpre i ops[i] l[i] (by simp [hi]) (List.getElem?_eq_getElem hil)).1 e he hbd
                have h3 := ihi e.on this (by omega)
                simpa [Array.getD_eq_getD_getElem?, Array.getElem?_eq_getElem (show e.on < listed.size by omega)] using h3
              rw [hnil] at hmem; simp at hmem
            · rfl
          · obtain ⟨o, ho, hnl, hedge⟩ := ready_iff.1 hi
            have hlt : i < ops.size := (Array.getElem?_eq_some_iff.1 ho).1
            have hil : i < l.length := by omega
            have hd : l[i]? = some l[i] := List.getElem?_eq_getElem hil
            generalize l[i] = d at hd
            have hti : ts[i]? = some ts[i] := List.getElem?_eq_getElem (by omega)
            generalize ts[i] = t at hti
            obtain ⟨o', ho', hdo⟩ := hget i d hd
            rw [ho] at ho'; simp only [Option.some.injEq] at ho'; subst ho'
            have hnl' : listed.getD i false = false := by
              simpa [Array.getD_eq_getD_getElem?, Array.getElem?_eq_getElem (show i < listed.size by omega)] using hnl
            have hpl : ∀ p ∈ d.pre, listed.getD p false = true := by
              intro p hp
              obtain ⟨e, he, hbd, h3⟩ := (hpre i o d ho hd).2 p hp
              have h4 := hedge e he hbd
              rcases h3 with rfl | ⟨d', hd', hp'⟩
              · exact h4
              · exact hcl e.on d' hd' h4 p hp'
            -- the slots that it reads are as they were in the order of the text
            have hread : ∀ q ∈ d.op.reads, envSel l ts (fun i => listed.getD i false) 0 ρ q = t.ρ q := by
              intro q hq
              rw [htenv i t hti, envSel_take l ts ρ htl i]
              refine envSel_congr l ts _ _ 0 ρ ρ q rfl fun j p hp hpd => ?_
              simp only [Nat.zero_add]
              obtain ⟨hne, hor⟩ := F.reads i j d p q hd hp hpd hq
              rcases hor with hj | hi'
              · have h5 := F.lt i d j hd hj
                rw [hpl j hj]; simp [h5]
              · have h5 := F.lt j p i hp hi'
                have h6 : listed.getD j false = false := by
                  rcases hb : listed.getD j false with _ | _
                  · rfl
                  · have := hcl j p hp hb i hi'
                    rw [hnl'] at this; simp at this
                rw [h6]; symm; simpa using Nat.le_of_lt h5
            have hwq := wanted_congr (o := d.op) hread
            have hargs := args_congr (o := d.op) hread
            obtain ⟨s1, s2⟩ := hst i d t hd hti
            -- what is loud ahead of it has run
            have hloud : d.op.ins.look T = false → stAt ts σ2 k = stAt ts σ2 i ∧ k ≤ i := by
              intro hdl
              have hki : k ≤ i := by
                rcases Nat.lt_or_ge i k with h7 | h7
                · have := (hld i d hd hdl).2 h7
                  rw [hnl'] at this; simp at this
                · exact h7
              refine ⟨(hrun k i hki (by omega) fun j p h1 h2 h3 => ?_).symm, hki⟩
              rcases hb : p.op.ins.look T with _ | _
              · have h8 := F.loud i j d p hd h3 h2 hb hdl
                have := (hld j p h3 hb).1 (hpl j h8); omega
              · rfl
            have e0 : stAt ts σ2 i = t.σ := by simp [stAt, hti]
            -- one step of the relation
            have hev : ∃ k', k' ≤ ops.size ∧ (trOp P nt ops o).ev E (envSel l ts (fun i => listed.getD i false) 0 ρ) (stAt ts σ2 k) = some ((envSel l ts (fun i => listed.getD i false) 0 ρ).put d.op.dst t.v, stAt ts σ2 k') ∧
                (∀ (j : Nat) (p : DOp), l[j]? = some p → p.op.ins.look T = false → ((listed.setIfInBounds i true).getD j false = true ↔ j < k')) := by
              rw [← hdo]
              have hld' : ∀ k', (d.op.ins.look T = true → k' = k) → (d.op.ins.look T = false → k' = i + 1) → ∀ (j : Nat) (p : DOp), l[j]? = some p → p.op.ins.look T = false → ((listed.setIfInBounds i true).getD j false = true ↔ j < k') := by
                intro k' hk1 hk2 j p hp hpl2
                rw [getD_set (by omega)]
                by_cases hji : j = i
                · subst hji
                  rw [hd] at hp; simp only [Option.some.injEq] at hp; subst hp
                  rw [hk2 hpl2]; simp
                · simp only [hji, if_false]
                  rw [hld j p hp hpl2]
                  rcases hb : d.op.ins.look T with _ | _
                  · rw [hk2 hb]
                    have hki := (hloud hb).2
                    constructor
                    · intro; omega
                    · intro h9
                      exact (hld j p hp hpl2).1 (hpl j (F.loud i j d p hd hp (by omega) hpl2 hb))
                  · rw [hk1 hb]
              rcases hb : d.op.ins.look T with _ | _
              · -- loud
                obtain ⟨e1, hki⟩ := hloud hb
                refine ⟨i + 1, by omega, ?_, hld' (i + 1) (fun h => by rw [hb] at h; simp at h) (fun _ => rfl)⟩
                unfold Op.ev
                rw [hwq]
                by_cases hw : wanted t.ρ d.op.guard = true
                · rw [if_pos hw, ev_congr _ hargs, e1, e0, s1 hw]; rfl
                · rw [if_neg hw, (s2 (by simpa using hw)).1, e1]
                  have := (s2 (by simpa using hw)).2
                  rw [e0]
                  have e3 : stAt ts σ2 (i + 1) = t.σ := this
                  rw [e3]
              · refine ⟨k, hk, ?_, hld' k (fun _ => rfl) (fun h => by rw [hb] at h; simp at h)⟩
                unfold Op.ev
                rw [hwq]
                by_cases hw : wanted t.ρ d.op.guard = true
                · rw [if_pos hw, ev_congr _ hargs]
                  by_cases hs : d.op.ins.still = true
                  · rw [(still_ev hs (s1 hw)).2]; rfl
                  · have := hlooks i d t hd hti hb (by simpa using hs) hw k (stAt ts σ2 k) (by
                      by_cases hkl : k = l.length
                      · rw [if_pos hkl]; rw [hkl, hlen, hn']
                      · rw [if_neg hkl]
                        have hkt : k < ts.length := by omega
                        simp [stAt, List.getElem?_eq_getElem hkt]) (by
                      unfold mayAt
                      rw [hd]
                      simp only [List.all_eq_true]
                      intro pj hpj
                      obtain ⟨p, j⟩ := pj
                      have hp := List.mk_mem_zipIdx_iff_getElem?.1 hpj
                      rcases hb2 : p.op.ins.look T with _ | _
                      · simp only [Bool.false_or]
                        split
                        · rename_i hjk
                          have h10 := (hld j p hp hb2).2 hjk
                          simp only [Bool.not_eq_true', List.contains_eq_mem, decide_eq_false_iff_not]
                          intro h11
                          have := hcl j p hp h10 i h11
                          rw [hnl'] at this; simp at this
                        · rename_i hjk
                          simp only [Bool.not_eq_true', List.contains_eq_mem, decide_eq_false_iff_not]
                          intro h11
                          exact hjk ((hld j p hp hb2).1 (hpl j h11))
                      · simp)
                    rw [this]; rfl
                · rw [if_neg hw, (s2 (by simpa using hw)).1]
            obtain ⟨k', hk', hev, hld'⟩ := hev
            refine op_sound hE (hstp.ext.tr.trans hKt) hrel hen ho hev fun K2 a2 q1 q2 q3 q4 => ?_
            have e5 : envSel l ts (fun j => (listed.setIfInBounds i true).getD j false) 0 ρ = (envSel l ts (fun i => listed.getD i false) 0 ρ).put d.op.dst t.v := by
              funext q
              rw [← envSel_more l ts (fun i => listed.getD i false) 0 i ρ d t htl hd hti (fun j p d' hp hpd hdd => F.nodup j i p d d' hp hd hpd hdd) (by simpa using hnl') q]
              refine envSel_congr l ts _ _ 0 ρ ρ q rfl fun j p _ _ => ?_
              simp only [Nat.zero_add, getD_set (show i < listed.size by omega)]
              by_cases hji : j = i <;> simp [hji]
            refine ih (listed.setIfInBounds i true) K2 a2 k' ?_ (by simpa using hsz) ?_ (e5 ▸ q3) hk' q2 hld' (q4.trans hdf) (hstp.trans q1)
            · have := filter_lt (fun i => !listed.getD i true) (fun j => !(listed.setIfInBounds i true).getD j true) (List.range ops.size) (fun x _ hx => by
                rw [getD_set (by omega)] at hx
                split at hx
                · simp at hx
                · exact hx) ⟨i, List.mem_range.2 hlt, by rw [hnl]; rfl, by rw [getD_set (by omega)]; simp⟩
              omega
            · intro j p hp hj q hq
              rw [getD_set (by omega)] at hj ⊢
              split
              · rfl
              · split at hj
                · rename_i hji; subst hji
                  rw [hd] at hp; simp only [Option.some.injEq] at hp; subst hp
                  exact hpl q hq
                · exact hcl j p hp hj q hq
      -- the world has drawn once
      refine wpIn_region_any hm ?_
      have hst1 : Step K { K with w := { K.w with drawn := K.w.drawn + 1 } } := ⟨⟨Nat.le_refl _, fun _ _ _ => rfl, fun _ _ h => h, fun _ _ _ h => h, fun _ h => h, fun _ _ _ h => h, fun _ _ h => h, ⟨rfl, rfl⟩, rfl⟩, fun _ => Iff.rfl⟩
      have hrel1 : Rel { K with w := { K.w with drawn := K.w.drawn + 1 } } σ := hK.keep hst1.ext rfl (fun _ => Iff.rfl) (fun _ => Iff.rfl) (fun _ _ => rfl)
      have hfirst : stAt ts σ2 0 = σ := by
        cases hl0 : l with
        | nil =>
          rw [hl0] at htr
          simp only [trace, Option.some.injEq, Prod.mk.injEq] at htr
          obtain ⟨rfl, _, rfl⟩ := htr
          rfl
        | cons x l2 =>
          rw [hl0] at htr
          simp only [trace] at htr
          split at htr
          · split at htr
            · split at htr
              · simp only [Option.some.injEq, Prod.mk.injEq] at htr; rw [← htr.1]; rfl
              · simp at htr
            · simp at htr
          · split at htr
            · simp only [Option.some.injEq, Prod.mk.injEq] at htr; rw [← htr.1]; rfl
            · simp at htr
      have hnone : ∀ j b, j < ops.size → (Array.replicate ops.size false).getD j b = false := fun j b hj => by
        simp [Array.getD_eq_getD_getElem?, hj]
      have hnone' : ∀ j, (Array.replicate ops.size false).getD j false = false := fun j => by
        by_cases hj : j < ops.size
        · exact hnone j false hj
        · simp [Array.getD_eq_getD_getElem?, hj]
      have e6 : envSel l ts (fun i => (Array.replicate ops.size false).getD i false) 0 ρ = ρ := envSel_none _ _ _ _ _ fun j _ => hnone' _
      exact key ops.size _ _ a 0 (Nat.le_trans (List.length_filter_le _ _) (by simp)) (by simp) (fun i d _ hi => by rw [hnone'] at hi; simp at hi) (by rw [e6]; exact hρ.ext hst1.ext) (Nat.zero_le _) (by rw [hfirst]; exact hrel1)
        (fun j d _ _ => by rw [hnone']; simp) rfl hst1
    · simp at h
  · simp at h

end
end Go.Vm
