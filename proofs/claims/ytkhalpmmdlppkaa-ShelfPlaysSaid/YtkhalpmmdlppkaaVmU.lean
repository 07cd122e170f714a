/-
  THE GENERIC LAYER 'Vm', part U: the arguments' readings as abstract values; the row's close.
-/
import Derived.Test.YtkhalpmmdlppkaaVmT
import Derived.ChangeSame
import Derived.JoinedOf
import Derived.SizedLaws
import Derived.RowKit
import Derived.WideKeyArgs
namespace Go.Vm
open Classical

/-- What an argument's type is made of. -/
inductive Sh where
  | bool
  | int (k : IntKind)
  | str
  | sl (bytes : Nat) (e : Sh)
  | st (fs : List Sh)

def fieldsOf (P : Program) (rec : TypeId → Option Sh) : Nat → List Field → Option (List Sh)
  | _, [] => some []
  | off, f :: fs => if f.offset = off then (rec f.type).bind fun s => (fieldsOf P rec (off + P.cellsOf f.type) fs).map (s :: ·) else none

def Sh.of (P : Program) : Nat → TypeId → Option Sh
  | 0, _ => none
  | n + 1, t =>
    match P.underlying t with
    | some .bool => some .bool
    | some (.int k) => some (.int k)
    | some .string => some .str
    | some (.slice e) => if 0 < P.cellsOf e then (Sh.of P n e).map (.sl (P.bytesOf e)) else none
    | some (.struct fs) => if P.cellsOf t = (fs.toList.map fun f => P.cellsOf f.type).sum then (fieldsOf P (Sh.of P n) 0 fs.toList).map .st else none
    | _ => none

def Sh.ok : Sh → List AV → Prop
  | .bool, cs => ∃ b, cs = [.bool b]
  | .int k, cs => ∃ n, cs = [.int k n] ∧ k.min ≤ n ∧ n ≤ k.max
  | .str, cs => ∃ s : List UInt8, cs = [.str s] ∧ s.length ≤ reachBytes
  | .sl by_ e, cs => ∃ rows : List (List AV), (∀ r, r ∈ rows → e.ok r) ∧ rows.length * by_ ≤ reachBytes ∧ rows.length ≤ maxLen ∧ cs = [.isl false rows.flatten rows.length none]
  | .st fs, cs => okL fs cs
where okL : List Sh → List AV → Prop
  | [], cs => cs = []
  | s :: fs, cs => ∃ a b, s.ok a ∧ okL fs b ∧ cs = a ++ b

/-- What an argument is told by. -/
structure Told (K : Ctx) (sh : Sh) (vs : List Value) (as : List AV) : Prop where
  ok : sh.ok as
  vrs : VRs K as vs
  cell : as.all AV.isCell = true
  nref : as.all AV.nref = true
  cln : as.all AV.cln = true

def plainCtx (P : Program) (W : World) : Ctx := ⟨W, fun _ => none, fun _ => False, fun _ => False, trF P⟩

theorem plain_rel (P : Program) (W : World) : Rel (plainCtx P W) emptySt where
  bd i := by simp [plainCtx, emptySt]
  inj i j b d d' h := by simp [plainCtx] at h
  lt i b d h := by simp [plainCtx] at h
  mubd i p h := by simp [plainCtx] at h
  fm i b d h := by simp [plainCtx] at h
  fmlt b h := h.elim
  blk i x h := by simp [emptySt] at h

section
variable {H : Type} {enc : TypeId × Value → H} {P : Program} {W : World}

theorem weightsAll_mem {e : TypeId} : ∀ {l : List (DataW H)} {d : DataW H}, d ∈ l → ∀ m ∈ d.weights P e, m ∈ DataW.weightsAll P e l
  | d0 :: l, d, hd, m, hm => by
    simp only [DataW.weightsAll, List.mem_append]
    rcases List.mem_cons.1 hd with rfl | hd
    · exact .inl hm
    · exact .inr (weightsAll_mem hd m hm)

theorem weightsEach_cons {t : TypeId} {ts : List TypeId} {d : DataW H} {ds : List (DataW H)} : DataW.weightsEach P (t :: ts) (d :: ds) = d.weights P t ++ DataW.weightsEach P ts ds := by
  simp [DataW.weightsEach]

/-- Rows of one size, one behind the other. -/
theorem rows_at {K : Ctx} {b : Nat} {s : Nat} : ∀ (rows : List (List AV)) (o : Nat), (∀ i (h : i < rows.length), rows[i].length = s ∧ RowAt K b (o + i * s) rows[i]) → RowAt K b o rows.flatten
  | [], o, _ => RowAt.nil K b o
  | r :: rows, o, h => by
    obtain ⟨h1, h2⟩ := h 0 (by simp)
    simp only [List.getElem_cons_zero, Nat.zero_mul, Nat.add_zero] at h1 h2
    have ih := rows_at rows (o + s) fun i hi => by
      have := h (i + 1) (by simpa using hi)
      simp only [List.getElem_cons_succ] at this
      rw [show o + (i + 1) * s = o + s + i * s by rw [Nat.add_mul]; omega] at this
      exact this
    obtain ⟨c1, g1, a1, b1⟩ := h2
    obtain ⟨c2, g2, a2, b2⟩ := ih
    refine ⟨by rw [List.flatten_cons, List.all_append, c1, c2]; rfl, fun j => if j < s then g1 j else g2 (j - s), fun j hj => ?_, fun j hj => ?_⟩
    · rw [List.flatten_cons, List.length_append] at hj
      by_cases e : j < s
      · simp only [e, if_true]; exact a1 j (by omega)
      · simp only [e, if_false]
        have := a2 (j - s) (by omega)
        rw [show o + s + (j - s) = o + j by omega] at this
        exact this
    · have hj' := hj
      rw [List.flatten_cons, List.length_append] at hj'
      have hget : (r :: rows).flatten[j]? = (r ++ rows.flatten)[j]? := rfl
      by_cases e : j < s
      · simp only [e, if_true]
        rw [List.getElem?_append_left (by omega), List.getElem?_eq_getElem hj, List.getElem?_eq_getElem (by omega)] at hget
        rw [Option.some.inj hget]; exact b1 j (by omega)
      · simp only [e, if_false]
        rw [List.getElem?_append_right (by omega), List.getElem?_eq_getElem hj, List.getElem?_eq_getElem (by omega)] at hget
        have := b2 (j - s) (by omega)
        rw [Option.some.inj hget]
        simp only [h1]; exact this

theorem told_fields {K : Ctx} {r : TypeId → List Value → Option (DataW H × List MemPlace)} {n : Nat}
    (ih : ∀ (t : TypeId) (sh : Sh) (cs : List Value) (x : DataW H × List MemPlace), Sh.of P n t = some sh → r t cs = some x → (∀ m ∈ x.1.weights P t, m ≤ reachBytes) → ∃ as, Told K sh cs as) :
    ∀ (fs : List Field) (off : Nat) (shs : List Sh) (cs : List Value) (xs : List (DataW H × List MemPlace)), fieldsOf P (Sh.of P n) off fs = some shs →
      cs.length = off + (fs.map fun f => P.cellsOf f.type).sum → (fs.mapM fun f => r f.type ((cs.drop f.offset).take (P.cellsOf f.type))) = some xs →
      (∀ m ∈ DataW.weightsEach P (fs.map (·.type)) (xs.map (·.1)), m ≤ reachBytes) → ∃ as, Told K (.st shs) (cs.drop off) as
  | [], off, shs, cs, xs, h1, h2, h3, h4 => by
    simp only [fieldsOf, Option.some.injEq] at h1; subst h1
    simp only [List.map_nil, List.sum_nil, Nat.add_zero] at h2
    refine ⟨[], by simp [Sh.ok, Sh.ok.okL], ?_, rfl, rfl, rfl⟩
    rw [← h2, List.drop_length]; exact VRs.nil K
  | f :: fs, off, shs, cs, xs, h1, h2, h3, h4 => by
    simp only [fieldsOf] at h1
    split at h1
    · rename_i hoff
      simp only [Option.bind_eq_some_iff, Option.map_eq_some_iff] at h1
      obtain ⟨s, hs, shs', hshs, rfl⟩ := h1
      rw [List.mapM_cons] at h3
      simp only [Option.bind_eq_bind, Option.bind_eq_some_iff, Option.pure_def, Option.some.injEq] at h3
      obtain ⟨x, hx, xs', hxs, rfl⟩ := h3
      simp only [List.map_cons, weightsEach_cons, List.mem_append] at h4
      simp only [List.map_cons, List.sum_cons] at h2
      obtain ⟨a, ha⟩ := ih f.type s _ x hs hx fun m hm => h4 m (.inl hm)
      obtain ⟨b, hb⟩ := told_fields ih fs _ shs' cs xs' hshs (by omega) hxs fun m hm => h4 m (.inr hm)
      refine ⟨a ++ b, ?_, ?_, by rw [List.all_append, ha.cell, hb.cell]; rfl, by rw [List.all_append, ha.nref, hb.nref]; rfl, by rw [List.all_append, ha.cln, hb.cln]; rfl⟩
      · simp only [Sh.ok, Sh.ok.okL]
        exact ⟨a, b, ha.ok, by simpa [Sh.ok] using hb.ok, rfl⟩
      · have := ha.vrs.append hb.vrs
        rw [hoff, ← List.drop_drop, List.take_append_drop] at this
        exact this
    · simp at h1

theorem wf_int {k : IntKind} {n : Int} (h : (Lit.int k n).wf = true) : k.min ≤ n ∧ n ≤ k.max := by
  simpa [Lit.wf] using h

theorem told : ∀ (fuel n : Nat) (t : TypeId) (sh : Sh) (cs : List Value) (x : DataW H × List MemPlace), Sh.of P n t = some sh → DataW.trod enc P W 0 (fun _ => true) true fuel t cs = some x →
    (∀ m ∈ x.1.weights P t, m ≤ reachBytes) → ∃ as, Told (plainCtx P W) sh cs as
  | 0, _, _, _, _, _, _, h, _ => by simp [DataW.trod] at h
  | fuel + 1, 0, _, _, _, _, h, _, _ => by simp [Sh.of] at h
  | fuel + 1, n + 1, t, sh, cs, x, hsh, h, hw => by
    unfold Sh.of at hsh
    split at hsh
    · rename_i hu
      simp only [Option.some.injEq] at hsh; subst hsh
      simp only [DataW.trod, hu] at h
      split at h <;> first | (simp at h; done) | (exfalso; simp_all; done) | skip
      rename_i b _
      exact ⟨[.bool b], ⟨b, rfl⟩, VRs.cons (.bool b) (VRs.nil _), rfl, rfl, rfl⟩
    · rename_i k hu
      simp only [Option.some.injEq] at hsh; subst hsh
      simp only [DataW.trod, hu] at h
      split at h <;> first | (simp at h; done) | (exfalso; simp_all; done) | skip
      rename_i k1 k2 m h1
      have hk : k1 = k := by simpa using h1.symm
      subst k1
      split at h
      · rename_i hc
        obtain ⟨he1, hwf⟩ := hc
        subst k2
        exact ⟨[.int k m], ⟨m, rfl, wf_int hwf⟩, VRs.cons (.int k m) (VRs.nil _), rfl, rfl, rfl⟩
      · simp at h
    · rename_i hu
      simp only [Option.some.injEq] at hsh; subst hsh
      simp only [DataW.trod, hu] at h
      split at h <;> first | (simp at h; done) | (exfalso; simp_all; done) | skip
      rename_i s _
      split at h
      · simp only [Option.some.injEq] at h; subst h
        have := hw s.data.toList.length (by simp [DataW.weights])
        exact ⟨[.str s.data.toList], ⟨_, rfl, this⟩, VRs.cons (.str s.data.toList) (VRs.nil _), rfl, rfl, rfl⟩
      · simp at h
    · rename_i e hu
      split at hsh
      rotate_left
      · simp at hsh
      rename_i hpos
      simp only [Option.map_eq_some_iff] at hsh
      obtain ⟨s, hs, rfl⟩ := hsh
      simp only [DataW.trod, hu] at h
      split at h <;> first | (simp at h; done) | (exfalso; simp_all; done) | skip
      · exact ⟨[.isl false [] 0 none], ⟨[], by simp, by simp, by simp, rfl⟩, VRs.cons (.islNil trivial) (VRs.nil _), rfl, rfl, rfl⟩
      · rename_i e' a len cap h1
        have he' : e' = e := by simpa using h1.symm
        subst e'
        split at h
        rotate_left
        · simp at h
        rename_i hc
        simp only [Option.bind_eq_some_iff, Option.map_eq_some_iff] at h
        obtain ⟨elems, hel, rest, hrest, rfl⟩ := h
        obtain ⟨hl1, hl2⟩ := mapM_some hel
        rw [List.length_range] at hl1
        have hwt : (elems.length + rest.length) * P.bytesOf e ≤ reachBytes := hw _ (by simp [DataW.weights, hu])
        have hby : elems.length * P.bytesOf e ≤ reachBytes := Nat.le_trans (Nat.mul_le_mul_right _ (Nat.le_add_right _ _)) hwt
        have hrow : ∀ i, i < len → ∃ r vs, Told (plainCtx P W) s vs r ∧ W.cells? 0 (a.add (i * P.cellsOf e)) (P.cellsOf e) = some vs := by
          intro i hi
          have := hl2 i (by simpa using hi) (by omega)
          rw [List.getElem_range] at this
          simp only [Option.bind_eq_some_iff] at this
          obtain ⟨vs, hvs, htr⟩ := this
          obtain ⟨r, hr⟩ := told fuel n e s vs _ hs htr fun m hm => hw m (by
            simp only [DataW.weights, hu, List.mem_cons, List.mem_append]
            exact .inr (.inl (weightsAll_mem (List.mem_map.2 ⟨elems[i], List.getElem_mem _, rfl⟩) m hm)))
          exact ⟨r, vs, hr, hvs⟩
        rcases Nat.eq_zero_or_pos len with h0 | h0
        · subst h0
          exact ⟨[.isl false [] 0 none], ⟨[], by simp, by simp, by simp, rfl⟩, VRs.cons (.islE trivial) (VRs.nil _), rfl, rfl, rfl⟩
        · have hcells : ∀ {i : Nat} {vs : List Value}, W.cells? 0 (a.add (i * P.cellsOf e)) (P.cellsOf e) = some vs → vs.length = P.cellsOf e ∧ ∀ j (h : j < vs.length), W.cell? ((a.add (i * P.cellsOf e)).add j) = some vs[j] := by
            intro i vs hvs
            unfold World.cells? at hvs
            rw [if_pos (Nat.zero_le _)] at hvs
            obtain ⟨q1, q2⟩ := mapM_some hvs
            rw [List.length_range] at q1
            refine ⟨q1, fun j hj => ?_⟩
            have := q2 j (by rw [List.length_range]; omega) hj
            rwa [List.getElem_range] at this
          have hspot : a = ⟨a.block, a.off, none⟩ ∧ a.block < W.heap.size := by
            obtain ⟨r, vs, _, hvs⟩ := hrow 0 h0
            obtain ⟨q1, q2⟩ := hcells hvs
            have := q2 0 (by omega)
            simp only [Nat.zero_mul, Addr.add, if_true] at this
            obtain ⟨ab, ao, as⟩ := a
            cases as with
            | none =>
              refine ⟨rfl, ?_⟩
              rcases Nat.lt_or_ge ab W.heap.size with h | h
              · exact h
              · simp [World.cell?, Array.getElem?_eq_none h] at this
            | some q =>
              simp only [World.cell?] at this
              split at this <;> simp at this
          obtain ⟨b, o, sp⟩ := a
          simp only [Addr.mk.injEq, true_and] at hspot
          obtain ⟨rfl, hblt⟩ := hspot
          have hadd : ∀ i j, ((⟨b, o, none⟩ : Addr).add (i * P.cellsOf e)).add j = ⟨b, o + i * P.cellsOf e + j, none⟩ := by
            intro i j
            simp only [Addr.add]
            split <;> split <;> simp_all
          let f : Nat → List AV := fun i => if h : i < len then (hrow i h).choose else []
          have hf : ∀ i (h : i < len), ∃ vs, Told (plainCtx P W) s vs (f i) ∧ W.cells? 0 ((⟨b, o, none⟩ : Addr).add (i * P.cellsOf e)) (P.cellsOf e) = some vs := by
            intro i h
            have := (hrow i h).choose_spec
            simp only [f, dif_pos h]
            exact this
          have hfl : ((List.range len).map f).length = len := by simp
          have hra : RowAt (plainCtx P W) b o ((List.range len).map f).flatten := by
            refine rows_at (s := P.cellsOf e) _ o fun i hi => ?_
            rw [hfl] at hi
            obtain ⟨vs, ht, hvs⟩ := hf i hi
            obtain ⟨q1, q2⟩ := hcells hvs
            have e1 : ((List.range len).map f)[i] = f i := by simp
            refine ⟨by rw [e1, ← q1]; exact ht.vrs.1.symm, ?_⟩
            rw [e1]
            refine ⟨ht.cell, fun j => vs[j]?.getD undef, fun j hj => ?_, ht.vrs.2⟩
            have hj' : j < vs.length := by rw [ht.vrs.1]; exact hj
            have := q2 j hj'
            rw [hadd] at this
            show W.cell? _ = _
            rw [this]; simp [List.getElem?_eq_getElem hj']
          have hall : ∀ (p : AV → Bool), (∀ i (h : i < len), (f i).all p = true) → (((List.range len).map f).flatten).all p = true := by
            intro p hp
            simp only [List.all_eq_true, List.mem_flatten, List.mem_map, List.mem_range]
            rintro y ⟨l, ⟨i, hi, rfl⟩, hy⟩
            exact List.all_eq_true.1 (hp i hi) y hy
          have hnr := hall AV.nref fun i h => (hf i h).choose_spec.1.nref
          have hcln := hall AV.cln fun i h => (hf i h).choose_spec.1.cln
          have hcell := hall AV.isCell fun i h => (hf i h).choose_spec.1.cell
          obtain ⟨_, g, g1, g2⟩ := hra
          refine ⟨[.isl false ((List.range len).map f).flatten len none], ⟨(List.range len).map f, ?_, ?_, ?_, by rw [hfl]⟩, VRs.cons (.isl g (fun _ => ⟨hblt, fun i d h => by simp [plainCtx] at h, fun _ => ⟨fun h => h, hcln⟩⟩) hcell hnr g1 g2 hc.2.1 trivial) (VRs.nil _), rfl, rfl, rfl⟩
          · intro r hr
            simp only [List.mem_map, List.mem_range] at hr
            obtain ⟨i, hi, rfl⟩ := hr
            exact (hf i hi).choose_spec.1.ok
          · rw [hfl, ← hl1]; exact hby
          · rw [hfl]; omega
    · rename_i fs hu
      split at hsh
      rotate_left
      · simp at hsh
      rename_i htot
      simp only [Option.map_eq_some_iff] at hsh
      obtain ⟨shs, hshs, rfl⟩ := hsh
      simp only [DataW.trod, hu] at h
      split at h
      rotate_left
      · simp at h
      rename_i hlen
      simp only [Option.map_eq_some_iff] at h
      obtain ⟨xs, hxs, rfl⟩ := h
      have := told_fields (K := plainCtx P W) (r := DataW.trod enc P W 0 (fun _ => true) true fuel) (n := n) (fun t sh cs x h1 h2 h3 => told fuel n t sh cs x h1 h2 h3) fs.toList 0 shs cs xs hshs (by omega) hxs
        (by intro m hm; exact hw m (by simpa [DataW.weights, hu] using hm))
      simpa using this
    · simp at hsh

/-- An argument. -/
def argOf : Sh → List AV → AV
  | .st _, as => .agg as
  | _, as => as.headD (.tup [])

def ArgsOk : List Sh → List AV → Prop
  | [], as => as = []
  | s :: ss, as => ∃ cs r, s.ok cs ∧ ArgsOk ss r ∧ as = argOf s cs :: r

theorem told_arg {n : Nat} {t : TypeId} {sh : Sh} (hsh : Sh.of P n t = some sh) {v : Value} {d : DataW H} {ps : List MemPlace} {base : Nat} (hval : Value.okWide P W .any base t v)
    (h : DataW.Trod enc P W 0 (fun _ => true) true t v d ps) (hw : ∀ m ∈ d.weights P t, m ≤ reachBytes) : ∃ cs, sh.ok cs ∧ VR (plainCtx P W) (argOf sh cs) v := by
  obtain ⟨fuel, h⟩ := h
  obtain ⟨as, ht⟩ := told fuel n t sh _ _ hsh h hw
  refine ⟨as, ht.ok, ?_⟩
  have one : (∀ g, v ≠ .agg g) → ∀ a, as = [a] → VR (plainCtx P W) a v := by
    intro hna a ha
    subst ha
    have h1 := ht.vrs.1
    have h2 := ht.vrs.2 0 (by simp)
    have hc := ht.cell
    simp only [List.length_singleton] at h1
    cases v with
    | agg g => exact absurd rfl (hna g)
    | _ => simpa [Value.cells] using h2
  have hna : (∀ fs, sh ≠ .st fs) → ∀ g, v ≠ .agg g := by
    rintro hst g rfl
    cases n with
    | zero => simp [Sh.of] at hsh
    | succ n =>
      unfold Sh.of at hsh
      split at hsh
      case h_5 => 
        split at hsh
        · simp only [Option.map_eq_some_iff] at hsh
          obtain ⟨_, _, rfl⟩ := hsh
          exact hst _ rfl
        · simp at hsh
      case h_6 => simp at hsh
      all_goals
        rename_i hu
        simp [Value.okWide, hu, Cell.okWide, Cell.ok] at hval
  cases sh with
  | st fs =>
    have : ∃ cs, v = .agg cs := by
      cases n with
      | zero => simp [Sh.of] at hsh
      | succ n =>
        unfold Sh.of at hsh
        split at hsh <;> try (simp at hsh; done)
        rename_i fs' hu
        unfold Value.okWide at hval
        rw [hu] at hval
        obtain ⟨cs, h, _⟩ := hval
        exact ⟨cs, h⟩
    obtain ⟨g, rfl⟩ := this
    simp only [argOf]
    have hv := ht.vrs
    simp only [Value.cells] at hv
    exact .agg g (by simpa using hv.1) ht.cell fun j hj => by simpa using hv.2 j hj
  | bool => obtain ⟨b, hb⟩ := ht.ok; rw [hb]; exact one (hna (fun fs e => nomatch e)) _ hb
  | int k => obtain ⟨m, hb, _⟩ := ht.ok; rw [hb]; exact one (hna (fun fs e => nomatch e)) _ hb
  | str => obtain ⟨m, hb, _⟩ := ht.ok; rw [hb]; exact one (hna (fun fs e => nomatch e)) _ hb
  | sl b e => obtain ⟨rows, _, _, _, hb⟩ := ht.ok; rw [hb]; exact one (hna (fun fs e => nomatch e)) _ hb

end
end Go.Vm
