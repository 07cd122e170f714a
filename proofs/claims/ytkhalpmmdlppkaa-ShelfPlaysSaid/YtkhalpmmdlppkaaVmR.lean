/-
  THE GENERIC LAYER 'Vm', part R: pictures of what is handed in, results made immutable, calls over a picture.
-/
import Derived.Test.YtkhalpmmdlppkaaVmQ
namespace Go.Vm
open Classical

theorem mapM_some {α β : Type} {f : α → Option β} : ∀ {l : List α} {l' : List β}, l.mapM f = some l' → l'.length = l.length ∧ ∀ j (h : j < l.length) (h' : j < l'.length), f l[j] = some l'[j]
  | [], l', h => by simp at h; subst h; exact ⟨rfl, fun j hj => by simp at hj⟩
  | a :: l, l', h => by
    simp only [List.mapM_cons, Option.bind_eq_bind, Option.bind_eq_some_iff, Option.pure_def, Option.some.injEq] at h
    obtain ⟨b, hb, bs, hbs, rfl⟩ := h
    obtain ⟨h1, h2⟩ := mapM_some hbs
    refine ⟨by simp [h1], fun j hj hj' => ?_⟩
    cases j with
    | zero => exact hb
    | succ j => exact h2 j (by simpa using hj) (by simpa using hj')

theorem mapM_all {α β : Type} {f : α → Option β} {p : α → Bool} {q : β → Bool} (hq : ∀ a b, f a = some b → p a = true → q b = true) {l : List α} {l' : List β} (h : l.mapM f = some l') (hp : l.all p = true) : l'.all q = true := by
  obtain ⟨h1, h2⟩ := mapM_some h
  rw [List.all_eq_true] at *
  intro b hb
  obtain ⟨j, hj, rfl⟩ := List.getElem_of_mem hb
  exact hq _ _ (h2 j (by omega) hj) (hp _ (List.getElem_mem _))

theorem snap_cell {σ : St} : ∀ (k : Nat) (x x' : AV), snap σ k x = some x' → x.isCell = true → x'.isCell = true
  | 0, _, _, h, _ => by simp [snap] at h
  | k + 1, x, x', h, hc => by
    cases x <;> simp only [snap, AV.isCell, Bool.false_eq_true] at h hc
    case ptr => simp only [Option.bind_eq_some_iff, Option.map_eq_some_iff] at h; obtain ⟨_, _, _, _, rfl⟩ := h; rfl
    case sl =>
      simp only [Option.bind_eq_some_iff] at h; obtain ⟨_, _, h⟩ := h
      split at h <;> try simp only [Option.map_eq_some_iff, reduceCtorEq] at h
      obtain ⟨_, _, rfl⟩ := h; rfl
    case map =>
      split at h <;> try simp only [Option.bind_eq_some_iff, Option.map_eq_some_iff, reduceCtorEq] at h
      obtain ⟨_, _, _, _, rfl⟩ := h; rfl
    case iface => simp only [Option.map_eq_some_iff] at h; obtain ⟨_, _, rfl⟩ := h; rfl
    case func => simp only [Option.bind_eq_some_iff, Option.map_eq_some_iff] at h; obtain ⟨_, _, _, _, rfl⟩ := h; rfl
    all_goals first | (simp only [Option.some.injEq] at h; subst h; rfl) | (simp at h; done)

/-- The context of a call that is handed a picture: nothing is its own, everything of the caller's is another's. -/
def Ctx.shut (K : Ctx) : Ctx := { w := K.w, mu := fun _ => none, bd := fun _ => False, fm := fun b => K.fm b ∨ ∃ i d, K.mu i = some (b, d), tr := K.tr }

theorem shut_rel {K : Ctx} {σ : St} (hK : Rel K σ) : Rel K.shut emptySt where
  bd i := by simp [Ctx.shut, emptySt]
  inj i j b d d' h := by simp [Ctx.shut] at h
  lt i b d h := by simp [Ctx.shut] at h
  mubd i p h := by simp [Ctx.shut] at h
  fm i b d h := by simp [Ctx.shut] at h
  fmlt b h := by
    rcases h with h | ⟨i, d, h⟩
    · exact hK.fmlt b h
    · exact hK.lt i b d h
  blk i x h := by simp [emptySt] at h

theorem shut_free (K : Ctx) (b : Nat) : K.shut.free b := fun i d h => by simp [Ctx.shut] at h

theorem cln_nref : ∀ {K : Ctx} {x : AV} {v : Value}, VR K x v → x.cln = true → x.nref = true := by
  intro K x v hx
  induction hx with
  | ptr => intro h; simp [AV.flt] at h
  | sl => intro h; simp [AV.flt] at h
  | map => intro h; simp [AV.flt] at h
  | func gf gc h1 h2 hf hc ih1 ih2 =>
    intro h
    simp only [AV.flt, AV.fltL_eq, Bool.and_eq_true, List.all_eq_true] at h
    simp only [AV.nref, AV.nrefL_eq, Bool.and_eq_true, List.all_eq_true]
    refine ⟨fun x hx => ?_, fun x hx => ?_⟩
    · obtain ⟨j, hj, rfl⟩ := List.getElem_of_mem hx; exact ih1 j hj (h.1 _ hx)
    · obtain ⟨j, hj, rfl⟩ := List.getElem_of_mem hx; exact ih2 j hj (h.2 _ hx)
  | iface hx ih => intro h; simp only [AV.nref]; exact ih (by simpa [AV.flt] using h)
  | agg g h1 hcell hv ih =>
    intro h
    simp only [AV.flt, AV.fltL_eq, List.all_eq_true] at h
    simp only [AV.nref, AV.nrefL_eq, List.all_eq_true]
    intro x hx; obtain ⟨j, hj, rfl⟩ := List.getElem_of_mem hx; exact ih j hj (h _ hx)
  | tup g h1 hv ih =>
    intro h
    simp only [AV.flt, AV.fltL_eq, List.all_eq_true] at h
    simp only [AV.nref, AV.nrefL_eq, List.all_eq_true]
    intro x hx; obtain ⟨j, hj, rfl⟩ := List.getElem_of_mem hx; exact ih j hj (h _ hx)
  | yld => intro h; simp [AV.flt] at h
  | _ => intro _; rfl

theorem snap_nref {σ : St} : ∀ (k : Nat) (x x' : AV), snap σ k x = some x' → x'.nref = true
  | 0, _, _, h => by simp [snap] at h
  | k + 1, x, x', h => by
    have IH := snap_nref (σ := σ) k
    have all : ∀ {l l' : List AV}, l.mapM (snap σ k) = some l' → l'.all AV.nref = true := fun h => by
      have := mapM_all (p := fun _ => true) (q := AV.nref) (fun a b hab _ => IH a b hab) h (by simp)
      exact this
    cases x <;> simp only [snap] at h
    case ptr => simp only [Option.bind_eq_some_iff, Option.map_eq_some_iff] at h; obtain ⟨_, _, _, _, rfl⟩ := h; rfl
    case sl =>
      simp only [Option.bind_eq_some_iff] at h; obtain ⟨_, _, h⟩ := h
      split at h <;> try simp only [Option.map_eq_some_iff, reduceCtorEq] at h
      obtain ⟨_, _, rfl⟩ := h; rfl
    case map =>
      split at h <;> try simp only [Option.bind_eq_some_iff, Option.map_eq_some_iff, reduceCtorEq] at h
      obtain ⟨_, _, _, _, rfl⟩ := h; rfl
    case agg => simp only [Option.map_eq_some_iff] at h; obtain ⟨_, h1, rfl⟩ := h; simp only [AV.nref, AV.nrefL_eq]; exact all h1
    case tup => simp only [Option.map_eq_some_iff] at h; obtain ⟨_, h1, rfl⟩ := h; simp only [AV.nref, AV.nrefL_eq]; exact all h1
    case iface => simp only [Option.map_eq_some_iff] at h; obtain ⟨_, h1, rfl⟩ := h; simp only [AV.nref]; exact IH _ _ h1
    case func => simp only [Option.bind_eq_some_iff, Option.map_eq_some_iff] at h; obtain ⟨_, h1, _, h2, rfl⟩ := h; simp only [AV.nref, AV.nrefL_eq, all h1, all h2]; rfl
    all_goals first | (simp only [Option.some.injEq] at h; subst h; rfl) | (simp at h; done)

/-- What names no block may be read in a shut context. -/
theorem shut_vr {K : Ctx} {x : AV} {v : Value} (hx : VR K x v) : x.nref = true → VR K.shut x v := by
  induction hx with
  | int k n => intro _; exact .int k n
  | bool b => intro _; exact .bool b
  | str s => intro _; exact .str s
  | nilp => intro _; exact .nilp
  | ptr => intro h; simp [AV.nref] at h
  | iptr g hlt hfree hfm hcell hnr hc hv ih =>
    intro _
    refine .iptr g hlt (shut_free K _) (fun hf => ⟨?_, (hfm hf).2⟩) hcell hnr hc fun j hj => ih j hj ?_
    · rintro (h1 | ⟨i, d, h1⟩)
      · exact (hfm hf).1 h1
      · exact hfree i d h1
    · rw [List.all_eq_true] at hnr; exact hnr _ (List.getElem_mem hj)
  | nilsl => intro _; exact .nilsl
  | esl => intro _; exact .esl
  | sl => intro h; simp [AV.nref] at h
  | yld => intro h; simp [AV.nref] at h
  | isl g hpos hcell hnr hc hv hl hcap ih =>
    intro _
    refine .isl g (fun hne => ?_) hcell hnr hc (fun j hj => ih j hj ?_) hl hcap
    · obtain ⟨p1, p2, p3⟩ := hpos hne
      refine ⟨p1, shut_free K _, fun hf => ⟨?_, (p3 hf).2⟩⟩
      rintro (h1 | ⟨i, d, h1⟩)
      · exact (p3 hf).1 h1
      · exact p2 i d h1
    · rw [List.all_eq_true] at hnr; exact hnr _ (List.getElem_mem hj)
  | islE hcap => intro _; exact .islE hcap
  | islNil hcap => intro _; exact .islNil hcap
  | nilm => intro _; exact .nilm
  | map => intro h; simp [AV.nref] at h
  | imap hnr hlt hfree hfm hr hk hvl hks hvs ih1 ih2 =>
    intro _
    obtain ⟨n1, n2⟩ := hnr
    rw [List.all_eq_true] at n1 n2
    refine .imap ⟨List.all_eq_true.2 n1, List.all_eq_true.2 n2⟩ hlt (shut_free K _) (fun hf => ?_) hr hk hvl (fun j hj => ih1 j hj (n1 _ (List.getElem_mem hj))) (fun j hj => ih2 j hj (n2 _ (List.getElem_mem hj)))
    rintro (h1 | ⟨i, d, h1⟩)
    · exact hfm hf h1
    · exact hfree i d h1
  | func gf gc h1 h2 hf hc ih1 ih2 =>
    intro h
    simp only [AV.nref, AV.nrefL_eq, Bool.and_eq_true, List.all_eq_true] at h
    exact .func gf gc h1 h2 (fun j hj => ih1 j hj (h.1 _ (List.getElem_mem hj))) (fun j hj => ih2 j hj (h.2 _ (List.getElem_mem hj)))
  | nilFunc => intro _; exact .nilFunc
  | iface hx ih => intro h; exact .iface (ih (by simpa [AV.nref] using h))
  | nilIface => intro _; exact .nilIface
  | agg g h1 hcell hv ih =>
    intro h
    simp only [AV.nref, AV.nrefL_eq, List.all_eq_true] at h
    exact .agg g h1 hcell fun j hj => ih j hj (h _ (List.getElem_mem hj))
  | tup g h1 hv ih =>
    intro h
    simp only [AV.nref, AV.nrefL_eq, List.all_eq_true] at h
    exact .tup g h1 fun j hj => ih j hj (h _ (List.getElem_mem hj))

theorem snap_sound {K : Ctx} {σ : St} (hK : Rel K σ) : ∀ (k : Nat) (x x' : AV) (v : Value), VR K x v → snap σ k x = some x' → VR K.shut x' v
  | 0, _, _, _, _, h => by simp [snap] at h
  | k + 1, x, x', v, hx, h => by
    have IH := snap_sound hK k
    have cells : ∀ {l l' : List AV}, l.all AV.isCell = true → l.mapM (snap σ k) = some l' → l'.all AV.isCell = true := fun h0 h => mapM_all (fun a b hab ha => snap_cell k a b hab ha) h h0
    have nref : ∀ {l l' : List AV}, l.mapM (snap σ k) = some l' → l'.all AV.nref = true := fun h => mapM_all (p := fun _ => true) (fun a b hab _ => snap_nref k a b hab) h (by simp)
    have vrs : ∀ {l l' : List AV} {g : Nat → Value}, l.mapM (snap σ k) = some l' → (∀ j (h : j < l.length), VR K l[j] (g j)) → ∀ j (h : j < l'.length), VR K.shut l'[j] (g j) := by
      intro l l' g h hv j hj
      obtain ⟨h1, h2⟩ := mapM_some h
      exact IH _ _ _ (hv j (by omega)) (h2 j (by omega) hj)
    have len : ∀ {l l' : List AV}, l.mapM (snap σ k) = some l' → l'.length = l.length := fun h => (mapM_some h).1
    cases x <;> simp only [snap] at h
    case ptr i off =>
      simp only [Option.bind_eq_some_iff, Option.map_eq_some_iff] at h
      obtain ⟨cs, hg, cs', hm, rfl⟩ := h
      obtain ⟨b, d, hmu, ⟨hc0, g, hg1, hg2⟩, _⟩ := hK.row hg
      cases hx with
      | ptr hb hpa =>
        rw [hpa b d hmu]
        exact .iptr g (hK.lt _ _ _ hmu) (shut_free K b) (fun h => by simp at h) (cells hc0 hm) (nref hm) (fun j hj => hg1 j (by rw [← len hm]; exact hj)) (vrs hm hg2)
    case sl i off ln cap sz =>
      simp only [Option.bind_eq_some_iff] at h
      obtain ⟨cs, hg, h⟩ := h
      split at h <;> try simp only [Option.map_eq_some_iff, reduceCtorEq] at h
      rename_i hle
      obtain ⟨cs', hm, rfl⟩ := h
      obtain ⟨b, d, hmu, hrow, _⟩ := hK.row hg
      obtain ⟨hc0, g, hg1, hg2⟩ := hrow.sub off (ln * sz)
      cases hx with
      | sl hb hpa hl hcap hrm =>
        rw [hpa b d hmu]
        exact .isl g (fun _ => ⟨hK.lt _ _ _ hmu, shut_free K b, fun h => by simp at h⟩) (cells hc0 hm) (nref hm) (fun j hj => hg1 j (by rw [← len hm]; exact hj)) (vrs hm hg2) hl trivial
    case map i =>
      split at h <;> try simp only [Option.bind_eq_some_iff, Option.map_eq_some_iff, reduceCtorEq] at h
      rename_i ks vs hh
      obtain ⟨ks', hk', vs', hv', rfl⟩ := h
      obtain ⟨b, d, hmu, es, clk, q1, q2, q3, q4, q5⟩ := hK.blk _ _ hh
      cases hx with
      | map hb hpr =>
        have := hpr b d hmu; subst this
        exact .imap ⟨nref hk', nref hv'⟩ (hK.lt _ _ _ hmu) (shut_free K _) (fun h => by simp at h) q1 (by rw [len hk']; exact q2) (by rw [len hv']; exact q3)
          (vrs (g := fun j => es[j]?.map MapEntry.key |>.getD undef) hk' q4) (vrs (g := fun j => es[j]?.map MapEntry.val |>.getD undef) hv' q5)
    case agg cs =>
      simp only [Option.map_eq_some_iff] at h
      obtain ⟨cs', hm, rfl⟩ := h
      cases hx with
      | agg g h1 hcell hv => exact .agg g (by rw [len hm]; exact h1) (cells hcell hm) (vrs (g := fun j => g[j]?.getD undef) hm hv)
    case tup cs =>
      simp only [Option.map_eq_some_iff] at h
      obtain ⟨cs', hm, rfl⟩ := h
      cases hx with
      | tup g h1 hv => exact .tup g (by rw [len hm]; exact h1) (vrs (g := fun j => g[j]?.getD undef) hm hv)
    case iface t x =>
      simp only [Option.map_eq_some_iff] at h
      obtain ⟨y, hy, rfl⟩ := h
      cases hx with
      | iface hq => exact .iface (IH _ _ _ hq hy)
    case func fn a b =>
      simp only [Option.bind_eq_some_iff, Option.map_eq_some_iff] at h
      obtain ⟨a', ha, b', hb, rfl⟩ := h
      cases hx with
      | func gf gc h1 h2 hf hc =>
        exact .func gf gc (by rw [len ha]; exact h1) (by rw [len hb]; exact h2) (vrs (g := fun j => gf[j]?.getD undef) ha hf) (vrs (g := fun j => gc[j]?.getD undef) hb hc)
    case nilsl => simp only [Option.some.injEq] at h; subst h; cases hx; exact .islNil trivial
    case esl => simp only [Option.some.injEq] at h; subst h; cases hx; exact .islE trivial
    case isl f cs ln cap =>
      simp only [Option.some.injEq] at h; subst h
      have := shut_vr hx rfl
      cases this with
      | isl g h1 h2 h3 h4 h5 h6 h7 => exact .isl g h1 h2 h3 h4 h5 h6 trivial
      | islE _ => exact .islE trivial
      | islNil _ => exact .islNil trivial
    all_goals first | (simp only [Option.some.injEq] at h; subst h; exact shut_vr hx rfl) | (simp at h; done)

theorem frz_cell {σ : St} {base : Nat} {used : List Id} : ∀ (k : Nat) (ok : Id → Nat → Bool) (x x' : AV), frz σ base used k ok x = some x' → x.isCell = true → x'.isCell = true
  | 0, _, _, _, h, _ => by simp [frz] at h
  | k + 1, ok, x, x', h, hc => by
    cases x <;> simp only [frz, AV.isCell, Bool.false_eq_true, reduceCtorEq] at h hc
    case ptr => split at h <;> simp only [Option.some.injEq, reduceCtorEq] at h; subst h; rfl
    case sl =>
      split at h <;> try simp only [Option.bind_eq_some_iff, reduceCtorEq] at h
      obtain ⟨_, _, h⟩ := h
      split at h <;> try simp only [Option.map_eq_some_iff, reduceCtorEq] at h
      obtain ⟨_, _, rfl⟩ := h; rfl
    case iface => simp only [Option.map_eq_some_iff] at h; obtain ⟨_, _, rfl⟩ := h; rfl
    case func => simp only [Option.bind_eq_some_iff, Option.map_eq_some_iff] at h; obtain ⟨_, _, _, _, rfl⟩ := h; rfl
    case iptr => split at h <;> simp only [Option.some.injEq, reduceCtorEq] at h; subst h; rfl
    case isl => split at h <;> simp only [Option.some.injEq, reduceCtorEq] at h; subst h; rfl
    all_goals first | (simp only [Option.some.injEq] at h; subst h; rfl) | (simp at h; done)

theorem frz_flt {σ : St} {base : Nat} {used : List Id} : ∀ (k : Nat) (ok : Id → Nat → Bool) (x x' : AV), frz σ base used k ok x = some x' → x'.flt ok = true
  | 0, _, _, _, h => by simp [frz] at h
  | k + 1, ok, x, x', h => by
    have IH := frz_flt (σ := σ) (base := base) (used := used) k ok
    have all : ∀ {l l' : List AV}, l.mapM (frz σ base used k ok) = some l' → l'.all (AV.flt ok) = true := fun h => mapM_all (p := fun _ => true) (fun a b hab _ => IH a b hab) h (by simp)
    cases x <;> simp only [frz, reduceCtorEq] at h
    case ptr => split at h <;> simp only [Option.some.injEq, reduceCtorEq] at h; subst h; simpa [AV.flt] using ‹_›
    case sl =>
      split at h <;> try simp only [Option.bind_eq_some_iff, reduceCtorEq] at h
      obtain ⟨_, _, h⟩ := h
      split at h <;> try simp only [Option.map_eq_some_iff, reduceCtorEq] at h
      obtain ⟨_, _, rfl⟩ := h; rfl
    case iptr => split at h <;> simp only [Option.some.injEq, reduceCtorEq] at h; rename_i hf; subst h; simpa [AV.flt] using hf
    case isl => split at h <;> simp only [Option.some.injEq, reduceCtorEq] at h; rename_i hf; subst h; simpa [AV.flt] using hf
    case agg => simp only [Option.map_eq_some_iff] at h; obtain ⟨_, h1, rfl⟩ := h; simp only [AV.flt, AV.fltL_eq]; exact all h1
    case tup => simp only [Option.map_eq_some_iff] at h; obtain ⟨_, h1, rfl⟩ := h; simp only [AV.flt, AV.fltL_eq]; exact all h1
    case iface => simp only [Option.map_eq_some_iff] at h; obtain ⟨_, h1, rfl⟩ := h; simp only [AV.flt]; exact IH _ _ h1
    case func => simp only [Option.bind_eq_some_iff, Option.map_eq_some_iff] at h; obtain ⟨_, h1, _, h2, rfl⟩ := h; simp only [AV.flt, AV.fltL_eq, all h1, all h2]; rfl
    all_goals first | (simp only [Option.some.injEq] at h; subst h; rfl) | (simp at h; done)

/-- What a result may be read in, behind the call. -/
structure Past (K1 K' : Ctx) (σ1 : St) (base : Nat) (used : List Id) (ok : Id → Nat → Bool) : Prop where
  w : K'.w = K1.w
  imm : ∀ b, b < K1.w.heap.size → K1.free b → ¬ K1.fm b → K'.free b ∧ ¬ K'.fm b
  own : ∀ i b d, base ≤ i.o → ¬ i ∈ used → K1.mu i = some (b, d) → K'.free b ∧ ¬ K'.fm b
  ptr : ∀ i off v, ok i off = true → VR K1 (.ptr i off) v → VR K' (.ptr i off) v

theorem past_flt {K1 K' : Ctx} {σ1 : St} {base : Nat} {used : List Id} {ok : Id → Nat → Bool} (P : Past K1 K' σ1 base used ok) {x : AV} {v : Value} (hx : VR K1 x v) : x.flt ok = true → VR K' x v := by
  have cl : ∀ {x : AV} {v : Value}, VR K1 x v → x.cln = true → VR K' x v := by
    intro x v hx
    induction hx with
    | int k n => intro _; exact .int k n
    | bool b => intro _; exact .bool b
    | str s => intro _; exact .str s
    | nilp => intro _; exact .nilp
    | ptr => intro h; simp [AV.flt] at h
    | iptr g hlt hfree hfm hcell hnr hc hv ih =>
      intro h
      simp only [AV.flt, Bool.not_eq_true'] at h
      subst h
      obtain ⟨p1, p2⟩ := hfm rfl
      obtain ⟨q1, q2⟩ := P.imm _ hlt hfree p1
      exact .iptr g (by rw [P.w]; exact hlt) q1 (fun _ => ⟨q2, p2⟩) hcell hnr (by rw [P.w]; exact hc) fun j hj => ih j hj (by rw [List.all_eq_true] at p2; exact p2 _ (List.getElem_mem hj))
    | nilsl => intro _; exact .nilsl
    | esl => intro _; exact .esl
    | sl => intro h; simp [AV.flt] at h
    | yld => intro h; simp [AV.flt] at h
    | @isl f cs len cap b o c g hpos hcell hnr hc hv hl hcap ih =>
      intro h
      simp only [AV.flt, Bool.not_eq_true'] at h
      subst h
      refine .isl g (fun hne => ?_) hcell hnr (by rw [P.w]; exact hc) (fun j hj => ih j hj ?_) hl hcap
      · obtain ⟨p1, p2, p3⟩ := hpos hne
        obtain ⟨q1, q2⟩ := P.imm _ p1 p2 (p3 rfl).1
        exact ⟨by rw [P.w]; exact p1, q1, fun _ => ⟨q2, (p3 rfl).2⟩⟩
      · have hne : cs ≠ [] := by intro e; rw [e] at hj; simp at hj
        have := ((hpos hne).2.2 rfl).2
        rw [List.all_eq_true] at this; exact this _ (List.getElem_mem hj)
    | islE hcap => intro _; exact .islE hcap
    | islNil hcap => intro _; exact .islNil hcap
    | nilm => intro _; exact .nilm
    | map => intro h; simp [AV.flt] at h
    | imap => intro h; simp [AV.flt] at h
    | func gf gc h1 h2 hf hc ih1 ih2 =>
      intro h
      simp only [AV.flt, AV.fltL_eq, Bool.and_eq_true, List.all_eq_true] at h
      exact .func gf gc h1 h2 (fun j hj => ih1 j hj (h.1 _ (List.getElem_mem hj))) (fun j hj => ih2 j hj (h.2 _ (List.getElem_mem hj)))
    | nilFunc => intro _; exact .nilFunc
    | iface hx ih => intro h; exact .iface (ih (by simpa [AV.flt] using h))
    | nilIface => intro _; exact .nilIface
    | agg g h1 hcell hv ih =>
      intro h
      simp only [AV.flt, AV.fltL_eq, List.all_eq_true] at h
      exact .agg g h1 hcell fun j hj => ih j hj (h _ (List.getElem_mem hj))
    | tup g h1 hv ih =>
      intro h
      simp only [AV.flt, AV.fltL_eq, List.all_eq_true] at h
      exact .tup g h1 fun j hj => ih j hj (h _ (List.getElem_mem hj))
  induction hx with
  | ptr hb hpa => intro h; exact P.ptr _ _ _ (by simpa [AV.flt] using h) (.ptr hb hpa)
  | yld => intro h; simp [AV.flt] at h
  | iptr g hlt hfree hfm hcell hnr hc hv ih => intro h; exact cl (.iptr g hlt hfree hfm hcell hnr hc hv) (by simpa [AV.flt] using h)
  | isl g hpos hcell hnr hc hv hl hcap ih => intro h; exact cl (.isl g hpos hcell hnr hc hv hl hcap) (by simpa [AV.flt] using h)
  | func gf gc h1 h2 hf hc ih1 ih2 =>
    intro h
    simp only [AV.flt, AV.fltL_eq, Bool.and_eq_true, List.all_eq_true] at h
    exact .func gf gc h1 h2 (fun j hj => ih1 j hj (h.1 _ (List.getElem_mem hj))) (fun j hj => ih2 j hj (h.2 _ (List.getElem_mem hj)))
  | iface hx ih => intro h; exact .iface (ih (by simpa [AV.flt] using h))
  | agg g h1 hcell hv ih =>
    intro h
    simp only [AV.flt, AV.fltL_eq, List.all_eq_true] at h
    exact .agg g h1 hcell fun j hj => ih j hj (h _ (List.getElem_mem hj))
  | tup g h1 hv ih =>
    intro h
    simp only [AV.flt, AV.fltL_eq, List.all_eq_true] at h
    exact .tup g h1 fun j hj => ih j hj (h _ (List.getElem_mem hj))
  | sl => intro h; simp [AV.flt] at h
  | map => intro h; simp [AV.flt] at h
  | imap => intro h; simp [AV.flt] at h
  | int k n => intro _; exact .int k n
  | bool b => intro _; exact .bool b
  | str s => intro _; exact .str s
  | nilp => intro _; exact .nilp
  | nilsl => intro _; exact .nilsl
  | esl => intro _; exact .esl
  | islE hcap => intro _; exact .islE hcap
  | islNil hcap => intro _; exact .islNil hcap
  | nilm => intro _; exact .nilm
  | nilFunc => intro _; exact .nilFunc
  | nilIface => intro _; exact .nilIface


theorem Past.zero {K1 K' : Ctx} {σ1 : St} {base : Nat} {used : List Id} {ok : Id → Nat → Bool} (P : Past K1 K' σ1 base used ok) : Past K1 K' σ1 base used (fun _ _ => false) :=
  ⟨P.w, P.imm, P.own, fun _ _ _ h => by simp at h⟩

theorem frz_sound {K1 K' : Ctx} {σ1 : St} (hK : Rel K1 σ1) {base : Nat} {used : List Id} : ∀ (k : Nat) (ok : Id → Nat → Bool) (x x' : AV) (v : Value), Past K1 K' σ1 base used ok → VR K1 x v → frz σ1 base used k ok x = some x' → VR K' x' v
  | 0, _, _, _, _, _, _, h => by simp [frz] at h
  | k + 1, ok, x, x', v, P, hx, h => by
    have IH := frz_sound hK (K' := K') (base := base) (used := used) k
    have vrs : ∀ {ok : Id → Nat → Bool} {l l' : List AV} {g : Nat → Value}, Past K1 K' σ1 base used ok → l.mapM (frz σ1 base used k ok) = some l' → (∀ j (h : j < l.length), VR K1 l[j] (g j)) → ∀ j (h : j < l'.length), VR K' l'[j] (g j) := by
      intro ok l l' g hp h hv j hj
      obtain ⟨h1, h2⟩ := mapM_some h
      exact IH ok _ _ _ hp (hv j (by omega)) (h2 j (by omega) hj)
    have len : ∀ {ok : Id → Nat → Bool} {l l' : List AV}, l.mapM (frz σ1 base used k ok) = some l' → l'.length = l.length := fun h => (mapM_some h).1
    have cells : ∀ {ok : Id → Nat → Bool} {l l' : List AV}, l.all AV.isCell = true → l.mapM (frz σ1 base used k ok) = some l' → l'.all AV.isCell = true := fun h0 h => mapM_all (fun a b hab ha => frz_cell k _ a b hab ha) h h0
    cases x <;> simp only [frz, reduceCtorEq] at h
    case ptr i off =>
      split at h <;> simp only [Option.some.injEq, reduceCtorEq] at h
      rename_i hok
      subst h; exact P.ptr _ _ _ hok hx
    case sl i off ln cap sz =>
      split at h <;> try simp only [Option.bind_eq_some_iff, reduceCtorEq] at h
      rename_i hc
      obtain ⟨cs, hg, h⟩ := h
      split at h <;> try simp only [Option.map_eq_some_iff, reduceCtorEq] at h
      rename_i hle
      obtain ⟨cs', hm, rfl⟩ := h
      obtain ⟨b, d, hmu, hrow, _⟩ := hK.row hg
      obtain ⟨hc0, g, hg1, hg2⟩ := hrow.sub off (ln * sz)
      obtain ⟨q1, q2⟩ := P.own i b d hc.1 hc.2 hmu
      have hv := vrs P.zero hm hg2
      have hcl : cs'.all AV.cln = true := mapM_all (p := fun _ => true) (fun a b hab _ => frz_flt k _ a b hab) hm (by simp)
      have hnr : cs'.all AV.nref = true := by
        rw [List.all_eq_true] at hcl ⊢
        intro y hy
        obtain ⟨j, hj, rfl⟩ := List.getElem_of_mem hy
        exact cln_nref (hv j hj) (hcl _ hy)
      cases hx with
      | sl hb hpa hl hcap hrm =>
        rw [hpa b d hmu]
        exact .isl g (fun _ => ⟨by rw [P.w]; exact hK.lt _ _ _ hmu, q1, fun _ => ⟨q2, hcl⟩⟩) (cells hc0 hm) hnr (fun j hj => by rw [P.w]; exact hg1 j (by rw [← len hm]; exact hj)) hv hl trivial
    case agg cs =>
      simp only [Option.map_eq_some_iff] at h
      obtain ⟨cs', hm, rfl⟩ := h
      cases hx with
      | agg g h1 hcell hv => exact .agg g (by rw [len hm]; exact h1) (cells hcell hm) (vrs (g := fun j => g[j]?.getD undef) P hm hv)
    case tup cs =>
      simp only [Option.map_eq_some_iff] at h
      obtain ⟨cs', hm, rfl⟩ := h
      cases hx with
      | tup g h1 hv => exact .tup g (by rw [len hm]; exact h1) (vrs (g := fun j => g[j]?.getD undef) P hm hv)
    case iface t x =>
      simp only [Option.map_eq_some_iff] at h
      obtain ⟨y, hy, rfl⟩ := h
      cases hx with
      | iface hq => exact .iface (IH ok _ _ _ P hq hy)
    case func fn a b =>
      simp only [Option.bind_eq_some_iff, Option.map_eq_some_iff] at h
      obtain ⟨a', ha, b', hb, rfl⟩ := h
      cases hx with
      | func gf gc h1 h2 hf hc =>
        exact .func gf gc (by rw [len ha]; exact h1) (by rw [len hb]; exact h2) (vrs (g := fun j => gf[j]?.getD undef) P ha hf) (vrs (g := fun j => gc[j]?.getD undef) P hb hc)
    case nilsl => simp only [Option.some.injEq] at h; subst h; cases hx; exact .islNil trivial
    case esl => simp only [Option.some.injEq] at h; subst h; cases hx; exact .islE trivial
    case iptr f cs off =>
      split at h <;> simp only [Option.some.injEq, reduceCtorEq] at h
      rename_i hf
      subst h
      exact past_flt P hx (by simpa [AV.flt] using hf)
    case isl f cs ln cap =>
      split at h <;> simp only [Option.some.injEq, reduceCtorEq] at h
      rename_i hf
      subst h
      have := past_flt P hx (by simpa [AV.flt] using hf)
      have hf' : f = false := by simpa using hf
      subst hf'
      cases this with
      | isl g h1 h2 h3 h4 h5 h6 h7 => exact .isl g h1 h2 h3 h4 h5 h6 trivial
      | islE _ => exact .islE trivial
      | islNil _ => exact .islNil trivial
    all_goals first | (simp only [Option.some.injEq] at h; subst h; exact past_flt P hx rfl) | (simp at h; done)

section
variable {P : Program}

theorem pure_sound {R : Runner} (hR : SoundR P R) {f : FuncId} {fi : FnI} (hf : FnOk P f fi) {args args' : List AV} {σ : St} {r : AV} (hs : args.mapM (snap σ depth) = some args') (hp : pureOf R fi args' = some r)
    {K : Ctx} {vargs : List Value} (hKt : K.tr = trF P) (hK : Rel K σ) (hv : VRs K args vargs) : Calls P f vargs.toArray K.w (Came K σ r) := by
  unfold pureOf at hp
  split at hp
  · rename_i r0 σ1 hb
    have hv' : VRs K.shut args' vargs := by
      obtain ⟨h1, h2⟩ := mapM_some hs
      refine ⟨by rw [h1]; exact hv.1, fun j hj => ?_⟩
      exact snap_sound hK depth _ _ _ (hv.2 j (by omega)) (h2 j (by omega) hj)
    have := body_sound hR hf hb (K := K.shut) hKt (shut_rel hK) hv'
    refine this.mono ?_
    rintro e w' ⟨v, K1, rfl, rfl, hst, hrel, hvr⟩
    have hfm : ∀ b, K1.fm b ↔ (K.fm b ∨ ∃ i d, K.mu i = some (b, d)) := hst.fm
    have hstep : Step K { w := K1.w, mu := K.mu, bd := K.bd, fm := K.fm, tr := K.tr } :=
      ⟨⟨hst.ext.size, fun b hb _ => hst.ext.same b hb (shut_free K b), fun _ _ h => h, fun _ _ _ h => h, fun _ h => h, fun _ _ _ h => h, hst.ext.keep, hst.ext.out, rfl⟩, fun _ => Iff.rfl⟩
    refine ⟨v, { w := K1.w, mu := K.mu, bd := K.bd, fm := K.fm, tr := K.tr }, rfl, rfl, hstep, hK.keep hstep.ext rfl (fun _ => Iff.rfl) (fun _ => Iff.rfl) (fun b hb => hst.ext.same b hb (shut_free K b)), ?_⟩
    refine frz_sound hrel depth _ _ _ _ ⟨rfl, fun b _ _ hnf => ?_, fun i b d _ _ hmu => ?_, fun _ _ _ h => by simp at h⟩ hvr hp
    · rw [hfm] at hnf
      exact ⟨fun i d h => hnf (.inr ⟨i, d, h⟩), fun h => hnf (.inl h)⟩
    · have hnf := hrel.fm i b d hmu
      rw [hfm] at hnf
      exact ⟨fun i d h => hnf (.inr ⟨i, d, h⟩), fun h => hnf (.inl h)⟩
  · simp at hp

end
end Go.Vm
