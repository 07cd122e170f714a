/-
  THE GENERIC LAYER 'Vm', part S: calls over some objects alone, which are laid anew behind the call.
-/
import Derived.Test.YtkhalpmmdlppkaaVmR
namespace Go.Vm
open Classical

theorem reCells_get (o v : Nat) : ∀ (cs : List AV) (k m : Nat), (reCells o v k cs)[m]? = (cs[m]?).map (reCell o v (k + m))
  | [], k, m => by simp [reCells]
  | c :: cs, k, 0 => by simp [reCells]
  | c :: cs, k, m + 1 => by
    simp only [reCells, List.getElem?_cons_succ]
    rw [reCells_get o v cs (k + 1) m, show k + 1 + m = k + (m + 1) by omega]

theorem reCells_len (o v : Nat) : ∀ (cs : List AV) (k : Nat), (reCells o v k cs).length = cs.length
  | [], k => rfl
  | c :: cs, k => by simp [reCells, reCells_len o v cs (k + 1)]

theorem reCell_cell (o v k : Nat) (c : AV) : (reCell o v k c).isCell = c.isCell := by cases c <;> rfl

theorem reCells_cell (o v : Nat) : ∀ (cs : List AV) (k : Nat), cs.all AV.isCell = true → (reCells o v k cs).all AV.isCell = true
  | [], k, _ => rfl
  | c :: cs, k, h => by
    simp only [List.all_cons, Bool.and_eq_true] at h
    simp only [reCells, List.all_cons, Bool.and_eq_true, reCell_cell]
    exact ⟨h.1, reCells_cell o v cs (k + 1) h.2⟩

theorem ownBlks_spec (σ : St) : ∀ (cs : List AV) (k q : Nat) (x : Blk), (ownBlks σ k cs).lookup q = some x → ∃ m c, cs[m]? = some c ∧ q = k + m + 1 ∧ (refId c).bind σ.heap = some x
  | [], k, q, x, h => by simp [ownBlks] at h
  | c :: cs, k, q, x, h => by
    have rest : (ownBlks σ (k + 1) cs).lookup q = some x → ∃ m c', (c :: cs)[m]? = some c' ∧ q = k + m + 1 ∧ (refId c').bind σ.heap = some x := fun h => by
      obtain ⟨m, c', h1, h2, h3⟩ := ownBlks_spec σ cs (k + 1) q x h
      exact ⟨m + 1, c', by simpa using h1, by omega, h3⟩
    unfold ownBlks at h
    split at h
    · rename_i y hy
      rw [List.lookup_cons] at h
      by_cases e : q = k + 1
      · subst e
        simp at h; subst h
        exact ⟨0, c, rfl, by omega, hy⟩
      · have : (q == k + 1) = false := by simpa using e
        rw [this] at h
        exact rest h
    · exact rest h

/-- The new names of an object's blocks, with the elder ones. -/
def pairsOf (σ : St) (i : Id) (o v : Nat) : List (Id × Id) :=
  match σ.get i with
  | some cs => (⟨o, 0, 0⟩, i) :: cs.zipIdx.filterMap fun (c, m) => (refId c).map fun q => (⟨o, m + 1, v⟩, q)
  | none => []

theorem pairs_ids {σ : St} {ok : Id → Nat → Bool} {i : Id} {o v : Nat} {bs : List (Nat × Blk)} {ids : List Id} (h : layObj σ ok i o v = some (bs, ids)) : (pairsOf σ i o v).map (·.2) = ids := by
  unfold layObj at h
  simp only [Option.bind_eq_some_iff] at h
  obtain ⟨cs, hg, h⟩ := h
  split at h <;> simp only [Option.some.injEq, Prod.mk.injEq, reduceCtorEq] at h
  obtain ⟨_, rfl⟩ := h
  simp only [pairsOf, hg, List.map_cons]
  congr 1
  have : ∀ (cs : List AV) (k : Nat), (((cs.zipIdx k).filterMap fun (c, m) => (refId c).map fun q => ((⟨o, m + 1, v⟩ : Id), q)).map (·.2)) = cs.filterMap refId := by
    intro cs
    induction cs with
    | nil => intro k; rfl
    | cons c cs ih =>
      intro k
      simp only [List.zipIdx_cons, List.filterMap_cons]
      cases hr : refId c with
      | none => simp only [Option.map_none]; exact ih (k + 1)
      | some q => simp only [Option.map_some, List.map_cons]; rw [ih (k + 1)]
  exact this cs 0

theorem mem_pairs {σ : St} {i : Id} {o v : Nat} {j q : Id} : (j, q) ∈ pairsOf σ i o v ↔ ∃ cs, σ.get i = some cs ∧ ((j = ⟨o, 0, 0⟩ ∧ q = i) ∨ ∃ m c, cs[m]? = some c ∧ refId c = some q ∧ j = ⟨o, m + 1, v⟩) := by
  unfold pairsOf
  cases hg : σ.get i with
  | none => simp
  | some cs =>
    simp only [List.mem_cons, Prod.mk.injEq, List.mem_filterMap, Option.map_eq_some_iff, Option.some.injEq, exists_eq_left']
    constructor
    · rintro (h | ⟨⟨c, m⟩, h1, q', h2, h3, h4⟩)
      · exact .inl h
      · subst h3; subst h4
        exact .inr ⟨m, c, List.mk_mem_zipIdx_iff_getElem?.1 h1, h2, rfl⟩
    · rintro (h | ⟨m, c, h1, h2, h3⟩)
      · exact .inl h
      · exact .inr ⟨(c, m), List.mk_mem_zipIdx_iff_getElem?.2 h1, q, h2, h3.symm, rfl⟩

theorem layAll_spec {σ : St} {ok : Id → Nat → Bool} {ver : Nat → Nat} : ∀ (objs : List (Id × Nat)) (xs : List (Nat × Nat × List (Nat × Blk))) (ids : List Id), layAll σ ok ver objs = some (xs, ids) →
    (objs.flatMap fun p => pairsOf σ p.1 p.2 (ver p.2)).map (·.2) = ids ∧
    ∀ (τ : St) (j : Id), (∀ p ∈ objs, p.2 ≠ j.o) ∧ (τ.putAll xs).heap j = τ.heap j ∨
      ∃ i o bs ids', (i, o) ∈ objs ∧ o = j.o ∧ layObj σ ok i o (ver o) = some (bs, ids') ∧ (τ.putAll xs).heap j = if j.v = (if j.k = 0 then 0 else ver o) then bs.lookup j.k else none
  | [], xs, ids, h => by
    simp only [layAll, Option.some.injEq, Prod.mk.injEq] at h
    obtain ⟨rfl, rfl⟩ := h
    exact ⟨rfl, fun τ j => .inl ⟨by simp, rfl⟩⟩
  | (i, o) :: objs, xs, ids, h => by
    simp only [layAll, Option.bind_eq_some_iff, Option.map_eq_some_iff, Prod.mk.injEq] at h
    obtain ⟨⟨bs, ids1⟩, h1, ⟨xs2, ids2⟩, h2, rfl, rfl⟩ := h
    obtain ⟨q1, q2⟩ := layAll_spec objs xs2 ids2 h2
    refine ⟨by simp only [List.flatMap_cons, List.map_append, q1, pairs_ids h1], fun τ j => ?_⟩
    by_cases e : j.o = o
    · right
      refine ⟨i, o, bs, ids1, by simp, e.symm, h1, ?_⟩
      simp only [St.putAll, St.putObj, e, if_true]
    · have hh : (τ.putAll ((o, ver o, bs) :: xs2)).heap j = (τ.putAll xs2).heap j := by simp only [St.putAll, St.putObj, e, if_false]
      rcases q2 τ j with ⟨r1, r2⟩ | ⟨i', o', bs', ids', r1, r2, r3, r4⟩
      · left
        refine ⟨fun p hp => ?_, by rw [hh, r2]⟩
        simp only [List.mem_cons] at hp
        rcases hp with rfl | hp
        · exact fun h => e h.symm
        · exact r1 p hp
      · right
        exact ⟨i', o', bs', ids', by simp [r1], r2, r3, by rw [hh, r4]⟩

theorem idsNodup_iff : ∀ (l : List Id), idsNodup l = true ↔ l.Nodup
  | [] => by simp [idsNodup]
  | x :: l => by simp [idsNodup, idsNodup_iff l]

theorem putAll_next (τ : St) : ∀ xs, (τ.putAll xs).next = τ.next ∧ (τ.putAll xs).ver = τ.ver
  | [] => ⟨rfl, rfl⟩
  | (_, _, _) :: xs => putAll_next τ xs

/-- Two names that had one elder name are one. -/
theorem pairs_inj {l : List (Id × Id)} (h : (l.map (·.2)).Nodup) {j1 j2 q : Id} (h1 : (j1, q) ∈ l) (h2 : (j2, q) ∈ l) : j1 = j2 := by
  induction l with
  | nil => simp at h1
  | cons p l ih =>
    simp only [List.map_cons, List.nodup_cons, List.mem_map, not_exists, not_and] at h
    simp only [List.mem_cons] at h1 h2
    rcases h1 with rfl | h1 <;> rcases h2 with h2 | h2
    · simp only [Prod.mk.injEq] at h2; exact h2.1.symm
    · exact absurd rfl (h.1 (j2, q) h2)
    · subst h2; exact absurd rfl (h.1 (j1, q) h1)
    · exact ih h.2 h1 h2


theorem id_main {i : Id} (hk : i.k = 0) (hv : i.v = 0) : i = ⟨i.o, 0, 0⟩ := by
  obtain ⟨o, k, v⟩ := i
  simp only at hk hv
  rw [hk, hv]

/-- The context of a call over some objects alone. -/
def Ctx.only (K : Ctx) (O : List Nat) : Ctx :=
  { w := K.w, mu := fun i => if i.o ∈ O then K.mu i else none, bd := K.bd, fm := fun b => K.fm b ∨ ∃ i d, ¬ i.o ∈ O ∧ K.mu i = some (b, d), tr := K.tr }

theorem only_mu {K : Ctx} {O : List Nat} {i : Id} {p : Nat × Nat} (h : (K.only O).mu i = some p) : i.o ∈ O ∧ K.mu i = some p := by
  simp only [Ctx.only] at h
  split at h
  · rename_i hi; exact ⟨hi, h⟩
  · simp at h

theorem only_ext (K : Ctx) (O : List Nat) : Ext K (K.only O) where
  out := ⟨rfl, rfl⟩
  tr := rfl
  size := Nat.le_refl _
  same _ _ _ := rfl
  free b _ hf i d h := hf i d (only_mu h).2
  mu _ _ _ h := (only_mu h).2
  bd _ h := h
  fm b _ hf h := by
    rcases h with h | ⟨i, d, _, h⟩
    · exact h
    · exact absurd h (hf i d)
  keep _ _ h := h

theorem only_rel {K : Ctx} {σ : St} (hK : Rel K σ) (O : List Nat) : Rel (K.only O) (σ.only O) where
  bd i := hK.bd i
  inj i j b d d' h1 h2 := hK.inj i j b d d' (only_mu h1).2 (only_mu h2).2
  lt i b d h := hK.lt i b d (only_mu h).2
  mubd i p h := hK.mubd i p (only_mu h).2
  fm i b d h hf := by
    obtain ⟨h1, h2⟩ := only_mu h
    rcases hf with hf | ⟨j, d', h3, h4⟩
    · exact hK.fm i b d h2 hf
    · have := hK.inj _ _ _ _ _ h2 h4
      subst this; exact h3 h1
  fmlt b h := by
    rcases h with h | ⟨i, d, _, h⟩
    · exact hK.fmlt b h
    · exact hK.lt i b d h
  blk i x h := by
    simp only [St.only] at h
    split at h
    · rename_i hi
      obtain ⟨b, d, h1, h2⟩ := hK.blk i x h
      exact ⟨b, d, by simp [Ctx.only, hi, h1], h2.ext (only_ext K O) rfl⟩
    · simp at h

theorem newOf_spec {new : Option (Option Nat)} {r : AV} {n : Option Id} (h : newOf new r = some n) :
    (new = none ∧ n = none) ∨ ∃ p, new = some p ∧ ((∃ i, n = some i ∧ resAt p r = some (.ptr i 0)) ∨ n = none ∧ resAt p r = some .nilp) := by
  unfold newOf at h
  split at h
  · simp only [Option.some.injEq] at h; exact .inl ⟨rfl, h.symm⟩
  · rename_i p
    right
    refine ⟨p, rfl, ?_⟩
    split at h <;> simp only [Option.some.injEq, reduceCtorEq] at h
    · rename_i i heq; exact .inl ⟨i, h.symm, heq⟩
    · rename_i heq; exact .inr ⟨h.symm, heq⟩

section
variable {P : Program}

set_option maxHeartbeats 4000000 in
theorem snap_only {K : Ctx} {σ : St} (hK : Rel K σ) (O : List Nat) : ∀ (k : Nat) (x x' : AV) (v : Value), VR K x v → snap (σ.but O) k x = some x' → VR (K.only O) x' v
  | 0, _, _, _, _, h => by simp [snap] at h
  | k + 1, x, x', v, hx, h => by
    have IH := snap_only hK O k
    have cells : ∀ {l l' : List AV}, l.all AV.isCell = true → l.mapM (snap (σ.but O) k) = some l' → l'.all AV.isCell = true := fun h0 h => mapM_all (fun a b hab ha => snap_cell k a b hab ha) h h0
    have nref : ∀ {l l' : List AV}, l.mapM (snap (σ.but O) k) = some l' → l'.all AV.nref = true := fun h => mapM_all (p := fun _ => true) (fun a b hab _ => snap_nref k a b hab) h (by simp)
    have vrs : ∀ {l l' : List AV} {g : Nat → Value}, l.mapM (snap (σ.but O) k) = some l' → (∀ j (h : j < l.length), VR K l[j] (g j)) → ∀ j (h : j < l'.length), VR (K.only O) l'[j] (g j) := by
      intro l l' g h hv j hj
      obtain ⟨h1, h2⟩ := mapM_some h
      exact IH _ _ _ (hv j (by omega)) (h2 j (by omega) hj)
    have len : ∀ {l l' : List AV}, l.mapM (snap (σ.but O) k) = some l' → l'.length = l.length := fun h => (mapM_some h).1
    have hget : ∀ {i : Id} {cs : List AV}, (σ.but O).get i = some cs → ¬ i.o ∈ O ∧ σ.get i = some cs := by
      intro i cs hg
      simp only [St.get, St.but] at hg ⊢
      by_cases hi : i.o ∈ O
      · simp [hi] at hg
      · simp only [hi, if_false] at hg; exact ⟨hi, hg⟩
    have hfr : ∀ {i : Id} {b d : Nat}, K.mu i = some (b, d) → ¬ i.o ∈ O → (K.only O).free b := by
      intro i b d hm hi j d' hj
      obtain ⟨h1, h2⟩ := only_mu hj
      have := hK.inj _ _ _ _ _ hm h2
      subst this; exact hi h1
    have low : ∀ {x : AV} {v : Value}, VR K x v → VR (K.only O) x v := fun h => h.ext (only_ext K O)
    cases x <;> simp only [snap] at h
    case ptr i off =>
      simp only [Option.bind_eq_some_iff, Option.map_eq_some_iff] at h
      obtain ⟨cs, hg0, cs', hm, rfl⟩ := h
      obtain ⟨hio, hg⟩ := hget hg0
      obtain ⟨b, d, hmu, ⟨hc0, g, hg1, hg2⟩, _⟩ := hK.row hg
      cases hx with
      | ptr hb hpa =>
        rw [hpa b d hmu]
        exact .iptr g (hK.lt _ _ _ hmu) (hfr hmu hio) (fun h => by simp at h) (cells hc0 hm) (nref hm) (fun j hj => hg1 j (by rw [← len hm]; exact hj)) (vrs hm hg2)
    case sl i off ln cap sz =>
      simp only [Option.bind_eq_some_iff] at h
      obtain ⟨cs, hg0, h⟩ := h
      obtain ⟨hio, hg⟩ := hget hg0
      split at h <;> try simp only [Option.map_eq_some_iff, reduceCtorEq] at h
      rename_i hle
      obtain ⟨cs', hm, rfl⟩ := h
      obtain ⟨b, d, hmu, hrow, _⟩ := hK.row hg
      obtain ⟨hc0, g, hg1, hg2⟩ := hrow.sub off (ln * sz)
      cases hx with
      | sl hb hpa hl hcap hrm =>
        rw [hpa b d hmu]
        exact .isl g (fun _ => ⟨hK.lt _ _ _ hmu, hfr hmu hio, fun h => by simp at h⟩) (cells hc0 hm) (nref hm) (fun j hj => hg1 j (by rw [← len hm]; exact hj)) (vrs hm hg2) hl trivial
    case map i =>
      split at h <;> try simp only [Option.bind_eq_some_iff, Option.map_eq_some_iff, reduceCtorEq] at h
      rename_i ks vs hh0
      have hio : ¬ i.o ∈ O := by intro hi; simp [St.but, hi] at hh0
      have hh : σ.heap i = some (.map ks vs) := by simpa [St.but, hio] using hh0
      obtain ⟨ks', hk', vs', hv', rfl⟩ := h
      obtain ⟨b, d, hmu, es, clk, q1, q2, q3, q4, q5⟩ := hK.blk _ _ hh
      cases hx with
      | map hb hpr =>
        have := hpr b d hmu; subst this
        exact .imap ⟨nref hk', nref hv'⟩ (hK.lt _ _ _ hmu) (hfr hmu hio) (fun h => by simp at h) q1 (by rw [len hk']; exact q2) (by rw [len hv']; exact q3)
          (vrs (g := fun j => es[j]?.map MapEntry.key |>.getD undef) hk' q4) (vrs (g := fun j => es[j]?.map MapEntry.val |>.getD undef) hv' q5)
    case agg cs =>
      simp only [Option.map_eq_some_iff] at h
      obtain ⟨cs', hm, rfl⟩ := h
      cases hx with
      | agg g h1 hcell hv => exact .agg g (by rw [len hm]; exact h1) (cells hcell hm) (vrs (g := fun j => g[j]?.getD undef) hm hv)
    case tup cs =>
      simp only [Option.map_eq_some_iff] at h
      obtain ⟨cs', hm, rfl⟩ := h
      cases hx with
      | tup g h1 hv => exact .tup g (by rw [len hm]; exact h1) (vrs (g := fun j => g[j]?.getD undef) hm hv)
    case iface t x =>
      simp only [Option.map_eq_some_iff] at h
      obtain ⟨y, hy, rfl⟩ := h
      cases hx with
      | iface hq => exact .iface (IH _ _ _ hq hy)
    case func fn a b =>
      simp only [Option.bind_eq_some_iff, Option.map_eq_some_iff] at h
      obtain ⟨a', ha, b', hb, rfl⟩ := h
      cases hx with
      | func gf gc h1 h2 hf hc =>
        exact .func gf gc (by rw [len ha]; exact h1) (by rw [len hb]; exact h2) (vrs (g := fun j => gf[j]?.getD undef) ha hf) (vrs (g := fun j => gc[j]?.getD undef) hb hc)
    case nilsl => simp only [Option.some.injEq] at h; subst h; cases hx; exact .islNil trivial
    case esl => simp only [Option.some.injEq] at h; subst h; cases hx; exact .islE trivial
    case isl f cs ln cap =>
      simp only [Option.some.injEq] at h; subst h
      have := low hx
      cases this with
      | isl g h1 h2 h3 h4 h5 h6 h7 => exact .isl g h1 h2 h3 h4 h5 h6 trivial
      | islE _ => exact .islE trivial
      | islNil _ => exact .islNil trivial
    all_goals first | (simp only [Option.some.injEq] at h; subst h; exact low hx) | (simp at h; done)

theorem argIn_sound {K : Ctx} {σ : St} (hK : Rel K σ) (O : List Nat) {x x' : AV} {v : Value} (hx : VR K x v) (h : argIn σ O x = some x') : VR (K.only O) x' v := by
  unfold argIn at h
  split at h
  · split at h
    · simp only [Option.some.injEq] at h; subst h; exact hx.ext (only_ext K O)
    · exact snap_only hK O _ _ _ _ hx h
  · split at h
    · simp only [Option.some.injEq] at h; subst h; exact hx.ext (only_ext K O)
    · exact snap_only hK O _ _ _ _ hx h

theorem mut_sound {R : Runner} (hR : SoundR P R) {f : FuncId} {fi : FnI} (hf : FnOk P f fi) {fp : List (Nat × List Nat)} {new : Option (Option Nat)} {args : List AV} {σ σ' : St} {r : AV} (h : mutOf R fi fp new args σ = some (r, σ'))
    {K : Ctx} {vargs : List Value} (hKt : K.tr = trF P) (hK : Rel K σ) (hv : VRs K args vargs) : Calls P f vargs.toArray K.w (Came K σ' r) := by
  unfold mutOf at h
  simp only [Option.bind_eq_some_iff] at h
  obtain ⟨O, hO, args', hin, ⟨r0, σ1⟩, hb, n, hn, ⟨xs, ids⟩, hlay, h⟩ := h
  split at h <;> simp only [Option.map_eq_some_iff, Prod.mk.injEq, reduceCtorEq] at h
  rename_i hc
  obtain ⟨hnd, hOnd, hOlt, hnew⟩ := hc
  obtain ⟨r', hr', rfl, rfl⟩ := h
  have hOlt : ∀ o ∈ O, o < σ.next := fun o ho => by
    rw [List.all_eq_true] at hOlt; simpa using hOlt o ho
  have hv' : VRs (K.only O) args' vargs := by
    obtain ⟨h1, h2⟩ := mapM_some hin
    refine ⟨by rw [h1]; exact hv.1, fun j hj => ?_⟩
    exact argIn_sound hK O (hv.2 j (by omega)) (h2 j (by omega) hj)
  have := body_sound hR hf hb (K := K.only O) hKt (only_rel hK O) hv'
  refine this.mono ?_
  rintro e w' ⟨v, K1, rfl, rfl, hst, hrel, hvr⟩
  have hfm : ∀ b, K1.fm b ↔ (K.fm b ∨ ∃ i d, ¬ i.o ∈ O ∧ K.mu i = some (b, d)) := hst.fm
  -- the names
  generalize hver : (σ.bump O).ver = ver' at *
  generalize hobjs : objsOf O n σ.next = objs at *
  generalize hok : okObj O = ok at *
  obtain ⟨hids, hheap⟩ := layAll_spec objs xs ids hlay
  generalize hprs : (objs.flatMap fun p => pairsOf σ1 p.1 p.2 (ver' p.2)) = prs at *
  have hinj : ∀ {j1 j2 q : Id}, (j1, q) ∈ prs → (j2, q) ∈ prs → j1 = j2 := fun h1 h2 => pairs_inj (by rw [hids]; exact (idsNodup_iff _).1 hnd) h1 h2
  have hverO : ∀ o, ver' o = if o ∈ O then σ.ver o + 1 else σ.ver o := fun o => by rw [← hver]; rfl
  have hobj : ∀ i o, (i, o) ∈ objs ↔ (o ∈ O ∧ i = ⟨o, 0, 0⟩) ∨ (n = some i ∧ o = σ.next) := by
    intro i o
    rw [← hobjs]; unfold objsOf; rw [List.mem_append, List.mem_map]
    constructor
    · rintro (⟨o', h1, h2⟩ | h)
      · simp only [Prod.mk.injEq] at h2
        obtain ⟨rfl, rfl⟩ := h2; exact .inl ⟨h1, rfl⟩
      · cases n with
        | none => simp at h
        | some i' => simp only [List.mem_singleton, Prod.mk.injEq] at h; obtain ⟨rfl, rfl⟩ := h; exact .inr ⟨rfl, rfl⟩
    · rintro (⟨h1, rfl⟩ | ⟨rfl, rfl⟩)
      · exact .inl ⟨o, h1, rfl⟩
      · exact .inr (by simp)
  have hobj1 : ∀ i i' o, (i, o) ∈ objs → (i', o) ∈ objs → i = i' := by
    intro i i' o h1 h2
    rcases (hobj i o).1 h1 with ⟨p1, p2⟩ | ⟨p1, p2⟩ <;> rcases (hobj i' o).1 h2 with ⟨q1, q2⟩ | ⟨q1, q2⟩
    · rw [p2, q2]
    · have := hOlt o p1; omega
    · have := hOlt o q1; omega
    · rw [p1] at q1; simpa using q1
  -- which names are laid anew
  have hmem : ∀ j q, (j, q) ∈ prs ↔ ∃ i o cs, (i, o) ∈ objs ∧ σ1.get i = some cs ∧ ((j = ⟨o, 0, 0⟩ ∧ q = i) ∨ ∃ m c, cs[m]? = some c ∧ refId c = some q ∧ j = ⟨o, m + 1, ver' o⟩) := by
    intro j q
    rw [← hprs, List.mem_flatMap]
    constructor
    · rintro ⟨⟨i, o⟩, h1, h2⟩
      obtain ⟨cs, h3, h4⟩ := mem_pairs.1 h2
      exact ⟨i, o, cs, h1, h3, h4⟩
    · rintro ⟨i, o, cs, h1, h3, h4⟩
      exact ⟨(i, o), h1, mem_pairs.2 ⟨cs, h3, h4⟩⟩
  have hprO : ∀ j q, (j, q) ∈ prs → ∃ i, (i, j.o) ∈ objs := by
    intro j q h
    obtain ⟨i, o, cs, h1, h2, h3⟩ := (hmem j q).1 h
    rcases h3 with ⟨rfl, _⟩ | ⟨m, c, _, _, rfl⟩ <;> exact ⟨i, h1⟩
  have hfun : ∀ {j q q' : Id}, (j, q) ∈ prs → (j, q') ∈ prs → q = q' := by
    intro j q q' h1 h2
    obtain ⟨i, o, cs, a1, a2, a3⟩ := (hmem j q).1 h1
    obtain ⟨i', o', cs', b1, b2, b3⟩ := (hmem j q').1 h2
    have ho : o = o' := by
      rcases a3 with ⟨e1, _⟩ | ⟨_, _, _, _, e1⟩ <;> rcases b3 with ⟨e2, _⟩ | ⟨_, _, _, _, e2⟩ <;> (rw [e1] at e2; simp only [Id.mk.injEq] at e2; exact e2.1)
    subst ho
    have := hobj1 i i' o a1 b1; subst this
    rw [a2] at b2; simp only [Option.some.injEq] at b2; subst b2
    rcases a3 with ⟨e1, rfl⟩ | ⟨m, c, c1, c2, e1⟩ <;> rcases b3 with ⟨e2, rfl⟩ | ⟨m', c', d1, d2, e2⟩
    · rfl
    · rw [e1] at e2; simp at e2
    · rw [e1] at e2; simp at e2
    · rw [e1] at e2; simp only [Id.mk.injEq, Nat.add_right_cancel_iff, true_and, and_true] at e2; subst e2
      rw [c1] at d1; simp only [Option.some.injEq] at d1; subst d1
      rw [c2] at d2; simpa using d2
  have hOobj : ∀ o, o ∈ O → ((⟨o, 0, 0⟩ : Id), o) ∈ objs := fun o ho => (hobj _ _).2 (.inl ⟨ho, rfl⟩)
  have hnoO : ∀ j : Id, (∀ i, ¬ (i, j.o) ∈ objs) → ¬ j.o ∈ O := fun j h ho => h _ (hOobj _ ho)
  -- the context behind the call
  let K' : Ctx :=
    { w := K1.w, mu := fun j => if h : ∃ q, (j, q) ∈ prs then K1.mu h.choose else if (∃ i, (i, j.o) ∈ objs) then none else K.mu j,
      bd := fun i => i.o < (if n.isSome then σ.next + 1 else σ.next) ∧ i.v ≤ ver' i.o, fm := K.fm, tr := K.tr }
  have m1 : ∀ {j q}, (j, q) ∈ prs → K'.mu j = K1.mu q := by
    intro j q h
    have hex : ∃ q, (j, q) ∈ prs := ⟨q, h⟩
    have : hex.choose = q := hfun hex.choose_spec h
    show (if h : ∃ q, (j, q) ∈ prs then K1.mu h.choose else _) = _
    rw [dif_pos hex, this]
  have m2 : ∀ {j p}, K'.mu j = some p → (∃ q, (j, q) ∈ prs ∧ K1.mu q = some p) ∨ ((∀ i, ¬ (i, j.o) ∈ objs) ∧ K.mu j = some p) := by
    intro j p h
    by_cases hex : ∃ q, (j, q) ∈ prs
    · obtain ⟨q, hq⟩ := hex
      rw [m1 hq] at h
      exact .inl ⟨q, hq, h⟩
    · have h' : (if h : ∃ q, (j, q) ∈ prs then K1.mu h.choose else if (∃ i, (i, j.o) ∈ objs) then none else K.mu j) = some p := h
      rw [dif_neg hex] at h'
      split at h'
      · simp at h'
      · rename_i hno
        exact .inr ⟨fun i hi => hno ⟨i, hi⟩, h'⟩
  have m3 : ∀ {j}, (∀ i, ¬ (i, j.o) ∈ objs) → K'.mu j = K.mu j := by
    intro j h
    have hex : ¬ ∃ q, (j, q) ∈ prs := fun ⟨q, hq⟩ => by obtain ⟨i, hi⟩ := hprO j q hq; exact h i hi
    show (if h : ∃ q, (j, q) ∈ prs then K1.mu h.choose else if (∃ i, (i, j.o) ∈ objs) then none else K.mu j) = _
    rw [dif_neg hex, if_neg (fun ⟨i, hi⟩ => h i hi)]
  -- blocks of another's are none of the call's
  have hother : ∀ {j : Id} {b d : Nat}, (∀ i, ¬ (i, j.o) ∈ objs) → K.mu j = some (b, d) → K1.fm b := fun {j b d} h1 h2 => (hfm b).2 (.inr ⟨j, d, hnoO j h1, h2⟩)
  have hidsmem : ∀ {j q : Id}, (j, q) ∈ prs → q ∈ ids := fun h => by rw [← hids]; exact List.mem_map.2 ⟨_, h, rfl⟩
  have hbdnew : ∀ j q, (j, q) ∈ prs → K'.bd j := by
    intro j q h
    obtain ⟨i, o, cs, h1, h2, h3⟩ := (hmem j q).1 h
    have ho : o < (if n.isSome then σ.next + 1 else σ.next) := by
      rcases (hobj i o).1 h1 with ⟨p1, _⟩ | ⟨p1, p2⟩
      · have := hOlt o p1; split <;> omega
      · rw [p1, p2]; simp
    rcases h3 with ⟨rfl, _⟩ | ⟨m, c, _, _, rfl⟩
    · exact ⟨ho, Nat.zero_le _⟩
    · exact ⟨ho, Nat.le_refl _⟩
  have hbdold : ∀ i, K.bd i → K'.bd i := by
    intro i hi
    have := (hK.bd i).1 hi
    refine ⟨by split <;> omega, ?_⟩
    rw [hverO]; split <;> omega
  have hnot : ∀ j q, (j, q) ∈ prs → K.bd j → j = ⟨j.o, 0, 0⟩ ∧ j.o ∈ O ∧ q = j := by
    intro j q h hj
    have hjb := (hK.bd j).1 hj
    obtain ⟨i, o, cs, h1, h2, h3⟩ := (hmem j q).1 h
    rcases (hobj i o).1 h1 with ⟨p1, p2⟩ | ⟨p1, p2⟩
    · rcases h3 with ⟨rfl, rfl⟩ | ⟨m, c, _, _, rfl⟩
      · exact ⟨rfl, p1, p2⟩
      · have := hjb.2
        simp only [hverO, p1, if_true] at this
        omega
    · exfalso
      rcases h3 with ⟨rfl, _⟩ | ⟨m, c, _, _, rfl⟩ <;> (have := hjb.1; simp only [p2] at this; omega)
  have hext : Ext K K' := by
    refine ⟨hst.ext.size, fun b hb hfr => hst.ext.same b hb ((only_ext K O).free b hb hfr), fun b hb hfr i d h => ?_, fun i hi p h => ?_, hbdold, fun b _ _ h => h, fun b o h => hst.ext.keep b o h, hst.ext.out, rfl⟩
    · rcases m2 h with ⟨q, _, h2⟩ | ⟨_, h2⟩
      · exact hst.ext.free b hb ((only_ext K O).free b hb hfr) q d h2
      · exact hfr i d h2
    · rcases m2 h with ⟨q, h1, h2⟩ | ⟨_, h2⟩
      · obtain ⟨_, _, e3⟩ := hnot i q h1 hi
        subst e3
        exact (only_mu (hst.ext.mu q hi p h2)).2
      · exact h2
  have hpast : Past K1 K' σ1 σ.next ids ok := by
    refine ⟨rfl, fun b hb hfr hnf => ⟨fun i d h => ?_, fun h => hnf ((hfm b).2 (.inl h))⟩, fun i b d h1 h2 h3 => ⟨fun j d' h => ?_, fun h => hrel.fm i b d h3 ((hfm b).2 (.inl h))⟩, fun i off v h1 h2 => ?_⟩
    · rcases m2 h with ⟨q, _, h2⟩ | ⟨h1, h2⟩
      · exact hfr q d h2
      · exact hnf (hother h1 h2)
    · rcases m2 h with ⟨q, h4, h5⟩ | ⟨h4, h5⟩
      · have := hrel.inj _ _ _ _ _ h5 h3; subst this
        exact h2 (hidsmem h4)
      · exact hrel.fm i b d h3 (hother h4 h5)
    · rw [← hok] at h1
      simp only [okObj, decide_eq_true_eq] at h1
      obtain ⟨k0, v0, hiO⟩ := h1
      have hi : i = ⟨i.o, 0, 0⟩ := id_main k0 v0
      cases h2 with
      | ptr hb hpa =>
        refine .ptr ⟨by have := hOlt _ hiO; show i.o < _; split <;> omega, by rw [v0]; exact Nat.zero_le _⟩ fun b d h => ?_
        rcases m2 h with ⟨q, h4, h5⟩ | ⟨h4, _⟩
        · obtain ⟨i', o, cs, a1, a2, a3⟩ := (hmem i q).1 h4
          have hq : q = i := by
            rcases a3 with ⟨e1, e2⟩ | ⟨m, c, _, _, e1⟩
            · have ho : o = i.o := by rw [e1]
              subst ho
              rw [e2, hobj1 i' _ _ a1 (hOobj _ hiO)]; exact hi.symm
            · rw [e1] at k0; simp at k0
          subst hq
          exact hpa b d h5
        · exact absurd hiO (hnoO i h4)
  have hrel' : Rel K' { ((σ.putAll xs).bump O) with next := if n.isSome then σ.next + 1 else σ.next } := by
    have hv2 : ((σ.putAll xs).bump O).ver = ver' := by
      rw [← hver]; unfold St.bump; simp only [(putAll_next σ xs).2]
    refine ⟨fun i => ?_, fun i j b d d' h1 h2 => ?_, fun i b d h => ?_, fun i p h => ?_, fun i b d h hf => ?_, fun b h => Nat.lt_of_lt_of_le (hK.fmlt b h) hext.size, fun j x h => ?_⟩
    · show _ ↔ i.o < _ ∧ i.v ≤ ((σ.putAll xs).bump O).ver i.o
      rw [hv2]
    · rcases m2 h1 with ⟨q1, a1, a2⟩ | ⟨a1, a2⟩ <;> rcases m2 h2 with ⟨q2, b1, b2⟩ | ⟨b1, b2⟩
      · have := hrel.inj _ _ _ _ _ a2 b2; subst this
        exact hinj a1 b1
      · exact absurd (hother b1 b2) (hrel.fm _ _ _ a2)
      · exact absurd (hother a1 a2) (hrel.fm _ _ _ b2)
      · exact hK.inj _ _ _ _ _ a2 b2
    · rcases m2 h with ⟨q, _, h2⟩ | ⟨_, h2⟩
      · exact hrel.lt q b d h2
      · exact Nat.lt_of_lt_of_le (hK.lt i b d h2) hext.size
    · rcases m2 h with ⟨q, h1, _⟩ | ⟨_, h2⟩
      · exact hbdnew i q h1
      · exact hbdold i (hK.mubd i p h2)
    · rcases m2 h with ⟨q, _, h2⟩ | ⟨_, h2⟩
      · exact hrel.fm q b d h2 ((hfm b).2 (.inl hf))
      · exact hK.fm i b d h2 hf
    · have h' : (σ.putAll xs).heap j = some x := h
      rcases hheap σ j with ⟨h1, h2⟩ | ⟨i, o, bs, ids', h1, h2, h3, h4⟩
      · rw [h2] at h'
        obtain ⟨b, d, q1, q2⟩ := hK.blk j x h'
        have hno : ∀ i, ¬ (i, j.o) ∈ objs := fun i hi => h1 _ hi rfl
        refine ⟨b, d, by rw [m3 hno]; exact q1, q2.ext hext ?_⟩
        have hfr : (K.only O).free b := by
          intro i' d' hi'
          obtain ⟨c1, c2⟩ := only_mu hi'
          have := hK.inj _ _ _ _ _ q1 c2; subst this
          exact hnoO _ hno c1
        exact hst.ext.same b (hK.lt _ _ _ q1) hfr
      · rw [h4] at h'
        by_cases hjv : j.v = (if j.k = 0 then 0 else ver' o)
        · rw [if_pos hjv] at h'
          subst h2
          unfold layObj at h3
          simp only [Option.bind_eq_some_iff] at h3
          obtain ⟨cs, hg, h3⟩ := h3
          split at h3 <;> simp only [Option.some.injEq, Prod.mk.injEq, reduceCtorEq] at h3
          rename_i hokc
          rw [List.all_eq_true] at hokc
          obtain ⟨rfl, _⟩ := h3
          rw [List.lookup_cons] at h'
          by_cases hk : j.k = 0
          · -- the main block
            rw [if_pos hk] at hjv
            have hj : j = ⟨j.o, 0, 0⟩ := id_main hk hjv
            have e0 : (j.k == 0) = true := by rw [hk]; rfl
            rw [e0] at h'
            simp only [Option.some.injEq] at h'
            subst h'
            have hpr : (j, i) ∈ prs := (hmem j i).2 ⟨i, j.o, cs, h1, hg, .inl ⟨hj, rfl⟩⟩
            obtain ⟨b, d, q1, ⟨hcc, g, hg1, hg2⟩, hfz⟩ := hrel.row hg
            refine ⟨b, d, by rw [m1 hpr]; exact q1, reCells_cell _ _ _ _ hcc, hrel.fz hg q1, g, fun m hm => ?_, fun m hm => ?_⟩
            · rw [reCells_len] at hm
              exact ⟨hg1 m hm, hfz m hm⟩
            · have hm' : m < cs.length := by rw [reCells_len] at hm; exact hm
              have e1 := reCells_get j.o (ver' j.o) cs 0 m
              rw [List.getElem?_eq_getElem hm, List.getElem?_eq_getElem hm'] at e1
              simp only [Option.map_some, Option.some.injEq, Nat.zero_add] at e1
              rw [e1]
              have hvm := hg2 m hm'
              have hokm := hokc _ (List.getElem_mem hm')
              have hcm : cs[m]? = some cs[m] := List.getElem?_eq_getElem hm'
              generalize cs[m] = c at hvm hokm hcm
              generalize g m = gm at hvm
              cases hr : refId c with
              | none =>
                have e2 : reCell j.o (ver' j.o) m c = c := by cases c <;> simp [refId] at hr <;> rfl
                have e3 : c.flt ok = true := by cases c <;> simp [refId] at hr <;> exact hokm
                rw [e2]; exact past_flt hpast hvm e3
              | some q =>
                have hpq : ((⟨j.o, m + 1, ver' j.o⟩ : Id), q) ∈ prs := (hmem _ _).2 ⟨i, j.o, cs, h1, hg, .inr ⟨m, c, hcm, hr, rfl⟩⟩
                have hbq := hbdnew _ _ hpq
                cases c <;> simp [refId] at hr
                case sl i2 off len cap sz =>
                  subst hr
                  simp only [reCell]
                  cases hvm with
                  | sl hb hpa hl hcap hrm => exact .sl hbq (fun b d h => hpa b d (by rw [← m1 hpq]; exact h)) hl hcap (fun b d h => hrm b d (by rw [← m1 hpq]; exact h))
                case map i2 =>
                  subst hr
                  simp only [reCell]
                  cases hvm with
                  | map hb hpr => exact .map hbq (fun b d h => hpr b d (by rw [← m1 hpq]; exact h))
          · have : (j.k == 0) = false := by simpa using hk
            rw [this] at h'
            simp only at h'
            obtain ⟨m, c, hcm, hkm, hbind⟩ := ownBlks_spec σ1 cs 0 j.k x h'
            cases hr : refId c with
            | none => rw [hr] at hbind; simp at hbind
            | some q =>
              rw [hr] at hbind
              simp only [Option.bind_some] at hbind
              rw [if_neg hk] at hjv
              have hj : j = ⟨j.o, m + 1, ver' j.o⟩ := by
                obtain ⟨jo, jk, jv⟩ := j
                simp only at hkm hjv ⊢
                rw [hjv, hkm]; simp
              have hpq : (j, q) ∈ prs := (hmem _ _).2 ⟨i, j.o, cs, h1, hg, .inr ⟨m, c, hcm, hr, hj⟩⟩
              obtain ⟨b, d, q1, q2⟩ := hrel.blk q x hbind
              refine ⟨b, d, by rw [m1 hpq]; exact q1, ?_⟩
              have hokm := hokc c (List.mem_of_getElem? hcm)
              cases c <;> simp [refId] at hr
              case sl i2 off len cap sz =>
                subst hr
                simp only [okCell] at hokm
                split at hokm
                · rename_i bs2 hbs2
                  have hx : x = .cells bs2 := by
                    unfold St.get at hbs2
                    rw [hbind] at hbs2
                    split at hbs2
                    · rename_i heq; simp only [Option.some.injEq] at heq hbs2; rw [heq, hbs2]
                    · simp at hbs2
                  subst hx
                  obtain ⟨hc0, hz, g, g1, g2⟩ := q2
                  rw [List.all_eq_true] at hokm
                  exact ⟨hc0, hz, g, g1, fun m hm => past_flt hpast (g2 m hm) (hokm _ (List.getElem_mem hm))⟩
                · simp at hokm
              case map i2 =>
                subst hr
                simp only [okCell, hbind] at hokm
                split at hokm
                · rename_i ks vs heq
                  simp only [Option.some.injEq] at heq; subst heq
                  rw [Bool.and_eq_true, List.all_eq_true, List.all_eq_true] at hokm
                  obtain ⟨es, clk, g1, g2, g3, g4, g5⟩ := q2
                  exact ⟨es, clk, g1, g2, g3, fun m hm => past_flt hpast (g4 m hm) (hokm.1 _ (List.getElem_mem hm)), fun m hm => past_flt hpast (g5 m hm) (hokm.2 _ (List.getElem_mem hm))⟩
                · simp at hokm
        · rw [if_neg hjv] at h'; simp at h'
  refine ⟨v, K', rfl, rfl, ⟨hext, fun _ => Iff.rfl⟩, hrel', ?_⟩
  -- the result
  have hnewR : ∀ p y w', new = some p → resAt p r0 = some y → VR K1 y w' → VR K' (newPtr σ.next n) w' := by
    intro p y w' hp hy hyv
    rcases newOf_spec hn with ⟨h1, _⟩ | ⟨p', h1, h2⟩
    · rw [h1] at hp; simp at hp
    · rw [h1] at hp; simp only [Option.some.injEq] at hp; subst hp
      rcases h2 with ⟨i, rfl, h3⟩ | ⟨rfl, h3⟩
      · rw [hy] at h3; simp only [Option.some.injEq] at h3; subst h3
        simp only [newPtr]
        have hin : (i, σ.next) ∈ objs := (hobj _ _).2 (.inr ⟨rfl, rfl⟩)
        cases hyv with
        | ptr hb hpa =>
          refine .ptr ⟨by simp, Nat.zero_le _⟩ fun b d h => ?_
          rcases m2 h with ⟨q, h4, h5⟩ | ⟨h4, _⟩
          · obtain ⟨i', o, cs, a1, a2, a3⟩ := (hmem _ q).1 h4
            have hq : q = i := by
              rcases a3 with ⟨e1, e2⟩ | ⟨m, c, _, _, e1⟩
              · simp only [Id.mk.injEq, and_true] at e1
                subst e1
                rw [e2]; exact hobj1 _ _ _ a1 hin
              · simp at e1
            subst hq
            exact hpa b d h5
          · exact absurd hin (h4 _)
      · rw [hy] at h3; simp only [Option.some.injEq] at h3; subst h3
        cases hyv; exact .nilp
  unfold resOf at hr'
  split at hr'
  · exact frz_sound hrel depth ok _ _ _ hpast hvr hr'
  · simp only [Option.some.injEq] at hr'; subst hr'
    exact hnewR none r0 v rfl rfl hvr
  · rename_i j0
    split at hr'
    · rename_i vs
      simp only [Option.map_eq_some_iff] at hr'
      obtain ⟨vs', hm, rfl⟩ := hr'
      obtain ⟨hl1, hl2⟩ := mapM_some hm
      cases hvr with
      | tup g h1 hv2 =>
        refine .tup g (by rw [hl1]; simpa using h1) fun m hm2 => ?_
        have hm3 : m < vs.length := by rw [hl1] at hm2; simpa using hm2
        have e1 := hl2 m (by simpa using hm3) hm2
        simp only [List.getElem_zipIdx, Nat.zero_add] at e1
        split at e1
        · rename_i hmj
          simp only [Option.some.injEq] at e1
          rw [← e1]
          refine hnewR (some j0) vs[m] _ rfl ?_ (hv2 m hm3)
          simp only [resAt]; rw [← hmj]; exact List.getElem?_eq_getElem hm3
        · exact frz_sound hrel depth ok _ _ _ hpast (hv2 m hm3) e1
    · simp at hr'

end
end Go.Vm
