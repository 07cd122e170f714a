/-
  THE GENERIC LAYER 'Vm', part D: what a row of cells reads as, loads and stores, new blocks.
-/
import Derived.Test.YtkhalpmmdlppkaaVmC
import Derived.Laws.IdiomCopy
import Derived.Deep.MidRow
namespace Go.Vm

structure Step (K K' : Ctx) : Prop where
  ext : Ext K K'
  fm : ∀ b, K'.fm b ↔ K.fm b

theorem Step.refl (K : Ctx) : Step K K := ⟨Ext.refl K, fun _ => Iff.rfl⟩
theorem Step.trans {K K' K'' : Ctx} (h : Step K K') (h' : Step K' K'') : Step K K'' := ⟨h.ext.trans h'.ext, fun b => (h'.fm b).trans (h.fm b)⟩

/-- The cells from (b, o) on read as these. -/
def RowAt (K : Ctx) (b o : Nat) (cs : List AV) : Prop :=
  cs.all AV.isCell = true ∧ ∃ g : Nat → Value, (∀ j, j < cs.length → K.w.cell? ⟨b, o + j, none⟩ = some (g j)) ∧ ∀ j (h : j < cs.length), VR K cs[j] (g j)

theorem RowAt.sub {K : Ctx} {b o : Nat} {cs : List AV} (h : RowAt K b o cs) (off n : Nat) : RowAt K b (o + off) ((cs.drop off).take n) := by
  obtain ⟨h0, g, h1, h2⟩ := h
  refine ⟨?_, fun j => g (off + j), fun j hj => ?_, fun j hj => ?_⟩
  · rw [List.all_eq_true] at h0 ⊢
    exact fun x hx => h0 x (List.mem_of_mem_drop (List.mem_of_mem_take hx))
  · simp at hj
    rw [Nat.add_assoc]; exact h1 _ (by omega)
  · simp at hj
    have := h2 (off + j) (by omega)
    simpa using this

theorem RowAt.nil (K : Ctx) (b o : Nat) : RowAt K b o [] := ⟨rfl, fun _ => undef, fun j hj => by simp at hj, fun j hj => by simp at hj⟩

theorem RowAt.take {K : Ctx} {b o : Nat} {cs : List AV} (h : RowAt K b o cs) (n : Nat) : RowAt K b o (cs.take n) := by
  simpa using h.sub 0 n
theorem RowAt.drop {K : Ctx} {b o : Nat} {cs : List AV} (h : RowAt K b o cs) (n : Nat) : RowAt K b (o + n) (cs.drop n) := by
  have := h.sub n (cs.drop n).length
  rwa [List.take_length] at this

/-- Values that read as these. -/
def VRs (K : Ctx) (cs : List AV) (vs : List Value) : Prop := vs.length = cs.length ∧ ∀ j (h : j < cs.length), VR K cs[j] (vs[j]?.getD undef)

theorem VRs.nil (K : Ctx) : VRs K [] [] := ⟨rfl, fun j h => by simp at h⟩
theorem VRs.cons {K : Ctx} {c : AV} {v : Value} {cs : List AV} {vs : List Value} (h : VR K c v) (hs : VRs K cs vs) : VRs K (c :: cs) (v :: vs) := by
  refine ⟨by simp [hs.1], fun j hj => ?_⟩
  cases j with
  | zero => simpa using h
  | succ j => simpa using hs.2 j (by simpa using hj)
theorem VRs.ext {K K' : Ctx} (h : Ext K K') {cs : List AV} {vs : List Value} (hs : VRs K cs vs) : VRs K' cs vs := ⟨hs.1, fun j hj => (hs.2 j hj).ext h⟩
theorem VRs.append {K : Ctx} {cs cs' : List AV} {vs vs' : List Value} (h : VRs K cs vs) (h' : VRs K cs' vs') : VRs K (cs ++ cs') (vs ++ vs') := by
  refine ⟨by simp [h.1, h'.1], fun j hj => ?_⟩
  by_cases hlt : j < cs.length
  · rw [List.getElem_append_left hlt, List.getElem?_append_left (by rw [h.1]; exact hlt)]; exact h.2 j hlt
  · rw [List.getElem_append_right (by omega), List.getElem?_append_right (by rw [h.1]; omega)]
    simp at hj
    have := h'.2 (j - cs.length) (by omega)
    rw [h.1]; exact this
theorem VRs.take {K : Ctx} {cs : List AV} {vs : List Value} (h : VRs K cs vs) (n : Nat) : VRs K (cs.take n) (vs.take n) := by
  refine ⟨by simp [h.1], fun j hj => ?_⟩
  simp at hj
  have := h.2 j (by omega)
  rw [List.getElem_take, List.getElem?_take_of_lt (by omega)]; exact this
theorem VRs.drop {K : Ctx} {cs : List AV} {vs : List Value} (h : VRs K cs vs) (n : Nat) : VRs K (cs.drop n) (vs.drop n) := by
  refine ⟨by simp [h.1], fun j hj => ?_⟩
  simp at hj
  have := h.2 (n + j) (by omega)
  simpa using this

theorem VR.cellOf {K : Ctx} {x : AV} {v : Value} (h : VR K x v) (hc : x.isCell = true) : v.oneCell' = true := by
  cases h <;> first | rfl | simp [AV.isCell] at hc

theorem VRs.oneCell {K : Ctx} {cs : List AV} {vs : List Value} (h : VRs K cs vs) (hc : cs.all AV.isCell = true) : ∀ v ∈ vs, v.oneCell' = true := by
  intro v hv
  obtain ⟨j, hj, rfl⟩ := List.getElem_of_mem hv
  have hj' : j < cs.length := h.1 ▸ hj
  have := h.2 j hj'
  rw [List.getElem?_eq_getElem hj] at this
  rw [List.all_eq_true] at hc
  exact this.cellOf (hc _ (List.getElem_mem hj'))

/-- A value's cells. -/
theorem VR.cells {K : Ctx} {x : AV} {v : Value} (h : VR K x v) (ht : ∀ l, x ≠ .tup l) : VRs K x.cells v.cells.toList ∧ (x.isCell = true ∨ x.cells.all AV.isCell = true) := by
  have one : ∀ {x : AV} {v : Value}, VR K x v → VRs K [x] [v] := fun h => VRs.cons h (VRs.nil K)
  cases h with
  | agg g h1 hc hv =>
    refine ⟨⟨by simpa [AV.cells, Value.cells] using h1, fun j hj => ?_⟩, .inr hc⟩
    simp only [AV.cells, Value.cells, Array.getElem?_toList] at hj ⊢
    exact hv j hj
  | tup => exact absurd rfl (ht _)
  | int => exact ⟨one (.int _ _), .inl rfl⟩
  | bool => exact ⟨one (.bool _), .inl rfl⟩
  | str => exact ⟨one (.str _), .inl rfl⟩
  | nilp => exact ⟨one .nilp, .inl rfl⟩
  | ptr hb h => exact ⟨one (.ptr hb h), .inl rfl⟩
  | iptr g h1 h2 h3 h4 h5 h6 h7 => exact ⟨one (.iptr g h1 h2 h3 h4 h5 h6 h7), .inl rfl⟩
  | nilsl => exact ⟨one .nilsl, .inl rfl⟩
  | esl => exact ⟨one .esl, .inl rfl⟩
  | sl h1 h2 h3 h4 h5 => exact ⟨one (.sl h1 h2 h3 h4 h5), .inl rfl⟩
  | isl g h1 h2 h3 h4 h5 h6 h7 => exact ⟨one (.isl g h1 h2 h3 h4 h5 h6 h7), .inl rfl⟩
  | islE h => exact ⟨one (.islE h), .inl rfl⟩
  | islNil h => exact ⟨one (.islNil h), .inl rfl⟩
  | nilm => exact ⟨one .nilm, .inl rfl⟩
  | map h1 h2 => exact ⟨one (.map h1 h2), .inl rfl⟩
  | yld h1 h2 => exact ⟨one (.yld h1 h2), .inl rfl⟩
  | imap h1 h2 h3 h4 h5 h6 h7 h8 h9 => exact ⟨one (.imap h1 h2 h3 h4 h5 h6 h7 h8 h9), .inl rfl⟩
  | func gf gc h1 h2 h3 h4 => exact ⟨one (.func gf gc h1 h2 h3 h4), .inl rfl⟩
  | nilFunc => exact ⟨one .nilFunc, .inl rfl⟩
  | iface h => exact ⟨one (.iface h), .inl rfl⟩
  | nilIface => exact ⟨one .nilIface, .inl rfl⟩

theorem VR.aggOf {K : Ctx} {cs : List AV} {vs : List Value} (h : VRs K cs vs) (hc : cs.all AV.isCell = true) : VR K (.agg cs) (.agg vs.toArray) :=
  .agg _ (by simpa using h.1) hc fun j hj => by simpa using h.2 j hj

/-! ### reading -/

/-- Where a pointer's cells are. -/
inductive At (K : Ctx) (σ : St) : AV → List AV → Nat → Addr → Prop
  | mk {x : AV} {cs : List AV} {off b o : Nat} (hrow : RowAt K b o cs) : At K σ x cs off ⟨b, o + off, none⟩

theorem Rel.row {K : Ctx} {σ : St} (h : Rel K σ) {i : Id} {cs : List AV} (hg : σ.get i = some cs) : ∃ b d, K.mu i = some (b, d) ∧ RowAt K b d cs ∧
    (∀ j, j < cs.length → K.w.frozen? ⟨b, d + j, none⟩ = false) := by
  unfold St.get at hg
  split at hg
  · rename_i cs' hh
    cases hg
    obtain ⟨b, d, h1, h2, _, g, h3, h4⟩ := h.blk i _ hh
    exact ⟨b, d, h1, ⟨h2, g, fun j hj => (h3 j hj).1, h4⟩, fun j hj => (h3 j hj).2⟩
  · simp at hg

theorem get_heap' {σ : St} {i : Id} {cs : List AV} (h : σ.get i = some cs) : σ.heap i = some (.cells cs) := by
  unfold St.get at h
  split at h <;> simp_all

theorem Rel.fz {K : Ctx} {σ : St} (h : Rel K σ) {i : Id} {cs : List AV} (hg : σ.get i = some cs) {b d : Nat} (hm : K.mu i = some (b, d)) : FzOk K.w b := by
  unfold St.get at hg
  split at hg
  · rename_i cs' hh
    obtain ⟨b', d', h1, _, h3, _⟩ := h.blk i _ hh
    rw [hm] at h1
    simp only [Option.some.injEq, Prod.mk.injEq] at h1
    obtain ⟨rfl, rfl⟩ := h1
    exact h3
  · simp at hg

theorem addr_add (b o n : Nat) : (⟨b, o, none⟩ : Addr).add n = ⟨b, o + n, none⟩ := by
  unfold Addr.add; split
  · subst_vars; rfl
  · rfl

section
variable {P : Program}

theorem run_cells {K : Ctx} {b o : Nat} {cs : List AV} (h : RowAt K b o cs) :
    ∃ vs : List Value, VRs K cs vs ∧ (loadCells ⟨b, o, none⟩ cs.length).run P K.w = .ok vs.toArray K.w := by
  obtain ⟨h0, g, h1, h2⟩ := h
  refine ⟨(List.range cs.length).map g, ⟨by simp, fun j hj => ?_⟩, ?_⟩
  · simp [hj]; exact h2 j hj
  · exact run_loadCells K.w _ _ g fun j hj => by rw [addr_add]; exact h1 j hj

def aggD : TypeDesc → Bool
  | .struct _ | .array _ _ => true
  | _ => false

theorem run_isAgg (t : TypeId) {d : TypeDesc} (h : P.underlying t = some d) (w : World) : (isAgg t).run P w = .ok (aggD d) w := by
  simp only [isAgg, Sem.run_bind, run_underlying h, Result.andThen_ok]
  cases d <;> rfl

/-- A type's shape, as the translation asks it. -/
def shapeOf (P : Program) (t : TypeId) : Option (Bool × Nat) :=
  match P.underlying t, P.info? t with
  | some d, some i => some (aggD d, i.size)
  | _, _ => none

theorem run_sizeOf' {t : TypeId} {agg : Bool} {n : Nat} (h : shapeOf P t = some (agg, n)) (w : World) : (sizeOf t).run P w = .ok n w ∧ (isAgg t).run P w = .ok agg w := by
  unfold shapeOf at h
  split at h
  · rename_i d i h1 h2
    simp only [Option.some.injEq, Prod.mk.injEq] at h
    obtain ⟨rfl, rfl⟩ := h
    exact ⟨by simp [sizeOf, typeInfo, h2], run_isAgg t h1 w⟩
  · simp at h

theorem part_sound {K : Ctx} {b o : Nat} {cs : List AV} (h : RowAt K b o cs) {agg : Bool} {n off : Nat} {v : AV} (hp : part agg n off cs = some v)
    {t : TypeId} (ht : shapeOf P t = some (agg, n)) : ∃ v', (loadVar t ⟨b, o + off, none⟩).run P K.w = .ok v' K.w ∧ VR K v v' := by
  obtain ⟨hs, ha⟩ := run_sizeOf' ht K.w
  unfold part at hp
  split at hp
  · rename_i hle
    cases agg with
    | true =>
      simp at hp; subst hp
      have hsub := h.sub off n
      obtain ⟨vs, hv, hr⟩ := run_cells (P := P) hsub
      have hl : ((cs.drop off).take n).length = n := by simp; omega
      rw [hl] at hr
      refine ⟨.agg vs.toArray, ?_, VR.aggOf hv hsub.1⟩
      simp [loadVar, ha, hs, hr]
    | false =>
      simp at hp
      obtain ⟨hlt, rfl⟩ := List.getElem?_eq_some_iff.1 hp
      obtain ⟨h0, g, h1, h2⟩ := h
      refine ⟨g off, ?_, h2 off hlt⟩
      simp [loadVar, ha, h1 off hlt]
  · simp at hp

theorem loadAt_sound {K : Ctx} {σ : St} (hK : Rel K σ) {agg : Bool} {n : Nat} {a v : AV} {va : Value} (ha : VR K a va) (hl : loadAt σ agg n a = some v)
    {t : TypeId} (ht : shapeOf P t = some (agg, n)) : ∃ v', (Instr.loadAt t va).run P K.w = .ok v' K.w ∧ VR K v v' := by
  unfold loadAt at hl
  split at hl
  · rename_i i off
    cases ha with
    | ptr hb h =>
      cases hg : σ.get i with
      | none => simp [hg] at hl
      | some cs =>
        simp [hg] at hl
        obtain ⟨b, d, hm, hrow, _⟩ := hK.row hg
        obtain ⟨v', h1, h2⟩ := part_sound (P := P) hrow hl ht
        refine ⟨v', ?_, h2⟩
        simp only [Instr.loadAt, Instr.sureAddr, Sem.run_bind, Sem.run_pure, Result.andThen_ok, h b d hm]
        exact h1
  · rename_i f cs off
    cases ha with
    | iptr g hlt hfree hfm hcell hnr hc hv =>
      obtain ⟨v', h1, h2⟩ := part_sound (P := P) ⟨hcell, g, hc, hv⟩ hl ht
      refine ⟨v', ?_, h2⟩
      simp only [Instr.loadAt, Instr.sureAddr, Sem.run_bind, Sem.run_pure, Result.andThen_ok]
      exact h1
  · simp at hl
end

/-! ### writing -/

theorem out_setCells (b : Nat) : ∀ (vs : List Value) (o : Nat) (w : World), (w.setCells b o vs).os = w.os ∧ (w.setCells b o vs).output = w.output
  | [], _, _ => ⟨rfl, rfl⟩
  | v :: vs, o, w => out_setCells b vs (o + 1) (w.setCell ⟨b, o, none⟩ v)

theorem heap_setCells (b : Nat) : ∀ (vs : List Value) (o : Nat) (w : World), (w.setCells b o vs).heap.size = w.heap.size ∧ ∀ b', b' ≠ b → (w.setCells b o vs).heap[b']? = w.heap[b']?
  | [], _, _ => ⟨rfl, fun _ _ => rfl⟩
  | v :: vs, o, w => by
    obtain ⟨h1, h2⟩ := heap_setCells b vs (o + 1) (w.setCell ⟨b, o, none⟩ v)
    refine ⟨h1.trans (by simp), fun b' hb => (h2 b' hb).trans ?_⟩
    simp [World.setCell, Array.getElem?_modify, Ne.symm hb]

theorem fz_setCells {b o : Nat} {vs : List Value} {w : World} (h : FzOk w b) : FzOk (w.setCells b o vs) b := by
  induction vs generalizing o w with
  | nil => exact h
  | cons v vs ih =>
    refine ih (w := w.setCell ⟨b, o, none⟩ v) ?_
    intro C e lo hi hh
    simp only [World.setCell] at hh
    simp only [Array.getElem?_modify, if_true] at hh
    cases hb : w.heap[b]? with
    | none => simp [hb] at hh
    | some ob =>
      rw [hb] at hh
      simp only [Option.map_some, Option.some.injEq] at hh
      cases ob <;> simp at hh
      obtain ⟨rfl, rfl, rfl⟩ := hh
      have := h _ _ _ _ hb
      simpa using this

theorem length_splice {cs vs : List AV} {off : Nat} (h : off + vs.length ≤ cs.length) : (splice cs off vs).length = cs.length := by
  simp [splice]; omega

theorem getElem?_splice {cs vs : List AV} {off : Nat} (h : off + vs.length ≤ cs.length) (j : Nat) :
    (splice cs off vs)[j]? = if off ≤ j ∧ j < off + vs.length then vs[j - off]? else cs[j]? := by
  unfold splice
  by_cases h1 : j < off
  · rw [List.getElem?_append_left (by simp; omega), List.getElem?_take_of_lt h1, if_neg (by omega)]
  · rw [List.getElem?_append_right (by simp; omega)]
    have e : (cs.take off).length = off := by simp; omega
    rw [e]
    by_cases h2 : j - off < vs.length
    · rw [List.getElem?_append_left h2, if_pos (by omega)]
    · rw [List.getElem?_append_right (by omega), List.getElem?_drop, if_neg (by omega)]
      congr 1; omega

theorem all_splice {cs vs : List AV} {off : Nat} {p : AV → Bool} (h : cs.all p = true) (h' : vs.all p = true) : (splice cs off vs).all p = true := by
  rw [List.all_eq_true] at *
  intro x hx
  simp only [splice, List.mem_append] at hx
  rcases hx with hx | hx | hx
  · exact h x (List.mem_of_mem_take hx)
  · exact h' x hx
  · exact h x (List.mem_of_mem_drop hx)

section
variable {P : Program}

theorem storeCells_sound {K : Ctx} {σ σ' : St} (hK : Rel K σ) {i : Id} {off : Nat} {cs : List AV} {vs : List Value} {a : Addr} (hs : VRs K cs vs)
    (ha : ∀ b d, K.mu i = some (b, d) → a = ⟨b, d + off, none⟩) (h : storeCells σ i off cs = some σ') :
    ∃ K', (Go.storeCells a vs).run P K.w = .ok () K'.w ∧ Step K K' ∧ Rel K' σ' := by
  unfold storeCells at h
  split at h
  · rename_i old hg
    split at h
    · rename_i hle
      obtain ⟨hle, hcell⟩ := hle
      simp only [Option.some.injEq] at h; subst h
      obtain ⟨b, d, hm, ⟨hoc, g, hg1, hg2⟩, hfz⟩ := hK.row hg
      have ha' := ha b d hm; subst ha'
      have hl := hs.1
      have hrun := run_storeCells_cells (P := P) b (d + off) vs 0 K.w (fun j hj => by
        have := hg1 (off + j) (by omega)
        rw [show d + off + 0 + j = d + (off + j) by omega, this]; rfl) (fun j hj => by
        have := hfz (off + j) (by omega)
        rw [show d + off + 0 + j = d + (off + j) by omega, this]) (hs.oneCell hcell)
      simp only [Nat.add_zero] at hrun
      obtain ⟨hsz, hother⟩ := heap_setCells b vs (d + off) K.w
      have hkeep : ∀ b' o', Room K.w b' o' → Room (K.w.setCells b (d + off) vs) b' o' := fun b' o' hr =>
        ⟨World.isSome_setCells b vs (d + off) K.w _ hr.1, by rw [World.frozen?_setCells]; exact hr.2⟩
      refine ⟨{ K with w := K.w.setCells b (d + off) vs }, hrun, ?_, ?_⟩
      · refine ⟨⟨by rw [hsz]; exact Nat.le_refl _, fun b' _ hf => hother b' ?_, fun _ _ h => h, fun _ _ _ h => h, fun _ h => h, fun _ _ _ h => h, hkeep, out_setCells _ _ _ _, rfl⟩, fun _ => Iff.rfl⟩
        rintro rfl; exact hf i d hm
      · have hext : Ext K { K with w := K.w.setCells b (d + off) vs } :=
          ⟨by rw [hsz]; exact Nat.le_refl _, fun b' _ hf => hother b' (by rintro rfl; exact hf i d hm), fun _ _ h => h, fun _ _ _ h => h, fun _ h => h, fun _ _ _ h => h, hkeep, out_setCells _ _ _ _, rfl⟩
        refine ⟨hK.bd, hK.inj, fun j b' d' hj => by rw [hsz]; exact hK.lt j b' d' hj, hK.mubd, hK.fm, fun b' hb' => by rw [hsz]; exact hK.fmlt b' hb', fun j x hx => ?_⟩
        by_cases hj : j = i
        · subst hj
          simp only [St.set, if_true, Option.some.injEq] at hx
          subst hx
          refine ⟨b, d, hm, all_splice hoc hcell, fz_setCells (hK.fz hg hm), fun j => if off ≤ j ∧ j < off + vs.length then vs[j - off]?.getD undef else g j, fun j hj => ⟨?_, ?_⟩, fun j hj => ?_⟩
          · rw [length_splice (by omega)] at hj
            by_cases hin : off ≤ j ∧ j < off + vs.length
            · simp only [hin, and_self, if_true]
              have := World.cell?_setCells_in b vs (d + off) K.w (fun j hj => by
                have := hg1 (off + j) (by omega)
                rw [show d + off + j = d + (off + j) by omega, this]; rfl) (j - off) (by omega)
              rw [show d + off + (j - off) = d + j by omega] at this
              rw [this, List.getElem?_eq_getElem (by omega)]; rfl
            · simp only [hin, if_false]
              rw [World.cell?_setCells_out b vs (d + off) K.w _ (by intro _ _; simp; omega)]
              exact hg1 j hj
          · rw [length_splice (by omega)] at hj
            rw [World.frozen?_setCells]; exact hfz j hj
          · have hj' := hj
            rw [length_splice (by omega)] at hj'
            have hget := getElem?_splice (cs := old) (vs := cs) (off := off) (by omega) j
            rw [List.getElem?_eq_getElem hj] at hget
            by_cases hin : off ≤ j ∧ j < off + vs.length
            · rw [if_pos (by omega), List.getElem?_eq_getElem (by omega)] at hget
              simp only [Option.some.injEq] at hget
              rw [hget]
              simp only [hin, and_self, if_true]
              exact (hs.2 (j - off) (by omega)).ext hext
            · rw [if_neg (by omega), List.getElem?_eq_getElem hj'] at hget
              simp only [Option.some.injEq] at hget
              rw [hget]
              simp only [hin, if_false]
              exact (hg2 j hj').ext hext
        · simp only [St.set, hj, if_false] at hx
          obtain ⟨b', d', h1, h2⟩ := hK.blk j x hx
          refine ⟨b', d', h1, h2.ext hext (hother b' ?_)⟩
          rintro rfl
          exact hj (hK.inj _ _ _ _ _ h1 hm)
    · simp at h
  · simp at h

theorem storeAt_sound {K : Ctx} {σ σ' : St} (hK : Rel K σ) {n : Nat} {a v : AV} {va vv : Value} (ha : VR K a va) (hv : VR K v vv) (h : storeAt σ n a v = some σ')
    {t : TypeId} {agg : Bool} (ht : shapeOf P t = some (agg, n)) :
    ∃ K', (Instr.storeAt t va vv).run P K.w = .ok () K'.w ∧ Step K K' ∧ Rel K' σ' := by
  unfold storeAt at h
  split at h
  · rename_i i off
    split at h
    · rename_i hlen
      cases ha with
      | ptr hb hpa =>
        obtain ⟨hsz, _⟩ := run_sizeOf' ht K.w
        by_cases htup : ∃ l, v = .tup l
        · obtain ⟨l, rfl⟩ := htup
          unfold storeCells at h
          split at h
          · simp [AV.cells, AV.isCell] at h
          · simp at h
        · have hcs := (hv.cells (fun l e => htup ⟨l, e⟩)).1
          obtain ⟨K', hr, h1, h2⟩ := storeCells_sound (P := P) hK hcs hpa h
          refine ⟨K', ?_, h1, h2⟩
          simp only [Instr.storeAt, Instr.sureAddr, storeVar, Sem.run_bind, Sem.run_pure, Result.andThen_ok, hsz]
          have : vv.cells.size = n := by rw [← hlen, ← hcs.1]; simp
          simp [this, hr]
    · simp at h
  · simp at h
end

/-! ### new blocks -/

def Ctx.bind (K : Ctx) (σ : St) (w' : World) (D : Id → Bool) (b d : Nat) : Ctx :=
  { w := w', mu := fun j => if j = ⟨σ.next, 0, 0⟩ then some (b, d) else if D j = true then none else K.mu j,
    bd := fun i => i.o < σ.next + 1 ∧ i.v ≤ σ.ver i.o, fm := K.fm, tr := K.tr }
def St.bind (σ : St) (D : Id → Bool) (x : Blk) : St :=
  { heap := fun j => if j = ⟨σ.next, 0, 0⟩ then some x else if D j = true then none else σ.heap j, next := σ.next + 1, ver := σ.ver }

theorem Ctx.bind_step {K : Ctx} {σ : St} (hK : Rel K σ) {w' : World} {D : Id → Bool} {b d : Nat} (hsz : K.w.heap.size ≤ w'.heap.size)
    (hsame : ∀ b', b' < K.w.heap.size → K.free b' → w'.heap[b']? = K.w.heap[b']?) (hne : ∀ b', b' < K.w.heap.size → K.free b' → b' ≠ b) (hkeep : ∀ b' o', Room K.w b' o' → Room w' b' o')
    (hout : w'.os = K.w.os ∧ w'.output = K.w.output) :
    Step K (K.bind σ w' D b d) := by
  refine ⟨⟨hsz, hsame, fun b' hb hf i d' hm => ?_, fun i hi p hp => ?_, fun i hi => ?_, fun _ _ _ h => h, hkeep, hout, rfl⟩, fun _ => Iff.rfl⟩
  · simp only [Ctx.bind] at hm
    split at hm
    · simp only [Option.some.injEq, Prod.mk.injEq] at hm; exact hne b' hb hf hm.1.symm
    · split at hm
      · simp at hm
      · exact hf i d' hm
  · simp only [Ctx.bind] at hp
    have := (hK.bd i).1 hi
    split at hp
    · rename_i e; subst e; simp at this
    · split at hp
      · simp at hp
      · exact hp
  · have := (hK.bd i).1 hi
    exact ⟨by omega, this.2⟩

theorem Rel.bind {K : Ctx} {σ : St} (hK : Rel K σ) {w' : World} {D : Id → Bool} {b d : Nat} {x : Blk} (hst : Step K (K.bind σ w' D b d)) (hb : b < w'.heap.size) (hfm : ¬ K.fm b)
    (hoth : ∀ j b' d', K.mu j = some (b', d') → D j = false → b' ≠ b ∧ w'.heap[b']? = K.w.heap[b']?) (hx : BlkR (K.bind σ w' D b d) b d x) :
    Rel (K.bind σ w' D b d) (σ.bind D x) where
  bd i := Iff.rfl
  inj i j b1 d1 d2 hi hj := by
    simp only [Ctx.bind] at hi hj
    split at hi
    · rename_i e1
      split at hj
      · rename_i e2; rw [e1, e2]
      · split at hj
        · simp at hj
        · rename_i hD
          simp only [Option.some.injEq, Prod.mk.injEq] at hi
          exact absurd hi.1.symm (hoth j b1 d2 hj (by simpa using hD)).1
    · split at hi
      · simp at hi
      · rename_i hD
        split at hj
        · simp only [Option.some.injEq, Prod.mk.injEq] at hj
          exact absurd hj.1.symm (hoth i b1 d1 hi (by simpa using hD)).1
        · split at hj
          · simp at hj
          · exact hK.inj _ _ _ _ _ hi hj
  lt i b1 d1 hi := by
    simp only [Ctx.bind] at hi ⊢
    split at hi
    · simp only [Option.some.injEq, Prod.mk.injEq] at hi; omega
    · split at hi
      · simp at hi
      · exact Nat.lt_of_lt_of_le (hK.lt _ _ _ hi) hst.ext.size
  mubd i p hi := by
    simp only [Ctx.bind] at hi ⊢
    split at hi
    · rename_i e; subst e; simp
    · split at hi
      · simp at hi
      · have := (hK.bd i).1 (hK.mubd i p hi); exact ⟨by omega, this.2⟩
  fm i b1 d1 hi := by
    simp only [Ctx.bind] at hi ⊢
    split at hi
    · simp only [Option.some.injEq, Prod.mk.injEq] at hi; rw [← hi.1]; exact hfm
    · split at hi
      · simp at hi
      · exact hK.fm _ _ _ hi
  fmlt b1 h1 := Nat.lt_of_lt_of_le (hK.fmlt b1 h1) hst.ext.size
  blk i y hy := by
    simp only [St.bind] at hy
    split at hy
    · rename_i e
      simp only [Option.some.injEq] at hy; subst hy
      exact ⟨b, d, by simp [Ctx.bind, e], hx⟩
    · rename_i e
      split at hy
      · simp at hy
      · rename_i hD
        obtain ⟨b1, d1, h1, h2⟩ := hK.blk i y hy
        have hD' : D i = false := by simpa using hD
        refine ⟨b1, d1, by simp [Ctx.bind, e, hD', h1], h2.ext hst.ext (hoth i b1 d1 h1 hD').2⟩

theorem St.alloc_eq (σ : St) (x : Blk) : σ.alloc x = (⟨σ.next, 0, 0⟩, σ.bind (fun _ => false) x) := by
  simp [St.alloc, St.bind, St.set]
theorem St.set_none_alloc (σ : St) (i : Id) (x : Blk) : (σ.set i none).alloc x = (⟨σ.next, 0, 0⟩, σ.bind (fun j => decide (j = i)) x) := by
  simp only [St.alloc, St.bind, St.set, Prod.mk.injEq, St.mk.injEq, true_and, and_true]
  funext j
  by_cases h1 : j = ⟨σ.next, 0, 0⟩
  · simp [h1]
  · by_cases h2 : j = i <;> simp [h1, h2]

theorem Room.lt {w : World} {b o : Nat} (h : Room w b o) : b < w.heap.size := by
  rcases Nat.lt_or_ge b w.heap.size with h1 | h1
  · exact h1
  · have := h.1
    simp [World.cell?, Array.getElem?_eq_none h1] at this

/-- A new block at the heap's end. -/
theorem push_sound {K : Ctx} {σ : St} (hK : Rel K σ) {w' : World} {ob : Obj} (D : Id → Bool) (hw : w'.heap = K.w.heap.push ob) (hout : w'.os = K.w.os ∧ w'.output = K.w.output) {x : Blk}
    (hx : ∀ K', Ext K K' → K'.w = w' → BlkR K' K.w.heap.size 0 x) :
    ∃ K', K'.w = w' ∧ Step K K' ∧ Rel K' (σ.bind D x) ∧ K'.mu ⟨σ.next, 0, 0⟩ = some (K.w.heap.size, 0) ∧ K'.bd ⟨σ.next, 0, 0⟩ := by
  have hold : ∀ b', b' < K.w.heap.size → w'.heap[b']? = K.w.heap[b']? := fun b' hb => by rw [hw, Array.getElem?_push]; simp [Nat.ne_of_lt hb]
  have hst : Step K (K.bind σ w' D K.w.heap.size 0) := Ctx.bind_step hK (by rw [hw]; simp) (fun b' hb _ => hold b' hb) (fun b' hb _ => Nat.ne_of_lt hb) (fun b' o' hr => by
    have hb : b' < K.w.heap.size := Room.lt hr
    exact ⟨by rw [cell?_congr (hold b' hb)]; exact hr.1, by rw [frozen?_congr (hold b' hb)]; exact hr.2⟩) hout
  refine ⟨_, rfl, hst, hK.bind hst (by rw [hw]; simp) (fun h => Nat.lt_irrefl _ (hK.fmlt _ h)) (fun j b' d' hm _ => ?_) (hx _ hst.ext rfl), by simp [Ctx.bind], ?_⟩
  · have := hK.lt j b' d' hm
    exact ⟨Nat.ne_of_lt this, hold b' this⟩
  · simp [Ctx.bind]

end Go.Vm
