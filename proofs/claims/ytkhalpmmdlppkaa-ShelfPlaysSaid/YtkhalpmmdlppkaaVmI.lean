/-
  THE GENERIC LAYER 'Vm', part I: the other operations on memory.
-/
import Derived.Test.YtkhalpmmdlppkaaVmH
namespace Go.Vm
section
variable {P : Program} {K : Ctx}

theorem copy_sound {σ σ' : St} (hK : Rel K σ) {d s v : AV} {vd vs : Value} (hd : VR K d vd) (hs : VR K s vs) {dT sT ty e : TypeId} {agg : Bool} {sz : Nat}
    (hu : P.underlying dT = some (.slice e)) (hsz : shapeOf P e = some (agg, sz)) {dl sl : Nat} {xs : List AV} (hdl : lenOf d = some dl) (hsl : lenOf s = some sl)
    (hxs : elems σ sz (min sl dl) s = some xs) (h : copyTo σ (min sl dl) xs d = some (v, σ')) :
    ∃ K' v', (Builtin.copy_ #[dT, sT] ty #[vd, vs]).run P K.w = .ok v' K'.w ∧ Step K K' ∧ Rel K' σ' ∧ VR K' v v' := by
  obtain ⟨hxl, hxc, xv, hxv, hxr⟩ := elems_sound (P := P) hK hs hxs
  obtain ⟨hsize, _⟩ := run_sizeOf' hsz K.w
  have hl1 := lenOf_sound (P := P) hs hsl K.w
  have run0 : ∀ {base : Option Addr} {dc : Nat}, (Builtin.copy_ #[dT, sT] ty #[.slice base dl dc, vs]).run P K.w =
      (match base with | some a => ((Go.storeCells a xv).run P K.w).andThen fun _ w' => .ok (.int .i64 (min sl dl : Nat)) w' | none => .ok (.int .i64 (min sl dl : Nat)) K.w) := by
    intro base dc
    have hx := hxr K.w rfl
    simp [Builtin.copy_, run_underlying hu, hl1, hsize, hx, goInt]
    cases base <;> simp
  have zero : xs.length = 0 → xv = [] := fun h0 => List.eq_nil_of_length_eq_zero (by rw [hxv.1]; exact h0)
  cases hd <;> simp only [copyTo, reduceCtorEq, Option.some.injEq, Prod.mk.injEq] at h
  case nilsl =>
    obtain ⟨rfl, rfl⟩ := h
    simp [lenOf] at hdl; subst hdl
    exact ⟨K, _, by rw [run0], Step.refl K, hK, .int _ _⟩
  case esl =>
    obtain ⟨rfl, rfl⟩ := h
    simp [lenOf] at hdl; subst hdl
    refine ⟨K, _, ?_, Step.refl K, hK, .int _ _⟩
    rw [run0, zero (by rw [hxl]; simp)]; simp [Go.storeCells]
  case sl i off len sz' cap a c hb hpa hl hcap hrm =>
    simp [lenOf] at hdl; subst hdl
    simp only [Option.map_eq_some_iff, Prod.mk.injEq] at h
    obtain ⟨σ1, hst, rfl, rfl⟩ := h
    obtain ⟨K', hr, h1, h2⟩ := storeCells_sound (P := P) hK hxv hpa hst
    exact ⟨K', _, by rw [run0]; simp only [hr, Result.andThen_ok], h1, h2, .int _ _⟩
  case isl f cs len cap b o c g hpos hcell hnr hc hv hl hcap =>
    split at h <;> simp only [Option.some.injEq, Prod.mk.injEq, reduceCtorEq] at h
    rename_i h0
    obtain ⟨rfl, rfl⟩ := h
    simp [lenOf] at hdl; subst hdl
    refine ⟨K, _, ?_, Step.refl K, hK, .int _ _⟩
    rw [run0, zero (by rw [hxl, h0]; simp)]; simp [Go.storeCells]
  case islE f a c cap hcap =>
    split at h <;> simp only [Option.some.injEq, Prod.mk.injEq, reduceCtorEq] at h
    rename_i h0
    obtain ⟨rfl, rfl⟩ := h
    simp [lenOf] at hdl; subst hdl
    refine ⟨K, _, ?_, Step.refl K, hK, .int _ _⟩
    rw [run0, zero (by rw [hxl, h0]; simp)]; simp [Go.storeCells]
  case islNil f cap hcap =>
    split at h <;> simp only [Option.some.injEq, Prod.mk.injEq, reduceCtorEq] at h
    obtain ⟨rfl, rfl⟩ := h
    simp [lenOf] at hdl; subst hdl
    exact ⟨K, _, by rw [run0], Step.refl K, hK, .int _ _⟩

/-- A new variable. -/
theorem newVar_sound {σ σ' : St} (hK : Rel K σ) {cs : List AV} {arr : Array Value} (hs : VRs K cs arr.toList) {i : Id} (h : newCells σ cs = some (i, σ')) (t : TypeId) (w' : World)
    (hw : w' = { K.w with heap := K.w.heap.push (.cells arr t (0, 0)) }) :
    ∃ K', K'.w = w' ∧ Step K K' ∧ Rel K' σ' ∧ (∀ n, VR K' (.ptr i n) (.pointer (some ⟨K.w.heap.size, n, none⟩))) ∧
      (∀ sz n c cap, n ≤ c → CapS cap c → c * sz ≤ arr.size → VR K' (.sl i 0 n cap sz) (.slice (some ⟨K.w.heap.size, 0, none⟩) n c)) := by
  obtain ⟨hc, rfl, rfl⟩ := newCells_eq h
  exact new_sound hK (fun _ => false) hc hs (by rw [hw]) (by rw [hw]; exact ⟨rfl, rfl⟩) (fun j _ => by simp) (.inl rfl)

theorem alloc_sound {σ σ' : St} (hK : Rel K σ) {t : TypeId} {z : List AV} (hz : zerosOf P t = some z) {i : Id} (h : newCells σ z = some (i, σ')) :
    ∃ K' v', (Instr.alloc t true (.tuple #[])).run P K.w = .ok v' K'.w ∧ Step K K' ∧ Rel K' σ' ∧ VR K' (.ptr i 0) v' := by
  obtain ⟨inf, zv, hi, hzv, hzs, _⟩ := zeros_sound hz K
  obtain ⟨K', h1, h2, h3, h4, _⟩ := newVar_sound hK hzs h t _ rfl
  refine ⟨K', _, ?_, h2, h3, h4 0⟩
  rw [h1]
  simp [Instr.alloc, zeroValue, typeInfo, hi, hzv, newVar, newRow]

theorem box_sound {σ σ' : St} (hK : Rel K σ) {t : TypeId} {x : AV} {vx : Value} (hx : VR K x vx) {i : Id} (h : newCells σ x.cells = some (i, σ')) :
    ∃ K' v', (Instr.box t vx).run P K.w = .ok v' K'.w ∧ Step K K' ∧ Rel K' σ' ∧ VR K' (.ptr i 0) v' := by
  have htup : ∀ l, x ≠ .tup l := by
    rintro l rfl
    obtain ⟨hc, _⟩ := newCells_eq h
    simp [AV.cells, AV.isCell] at hc
  obtain ⟨K', h1, h2, h3, h4, _⟩ := newVar_sound hK (hx.cells htup).1 h t _ rfl
  refine ⟨K', _, ?_, h2, h3, h4 0⟩
  rw [h1]
  simp [Instr.box, newVar, newRow]

/-! ### composites -/

theorem take_mid {α : Type} (v : α) (B : List α) : ∀ A : List α, (A ++ v :: B).take (A.length + 1) = A ++ [v]
  | [] => by simp
  | a :: A => by simp [take_mid v B A]
theorem drop_mid {α : Type} (v : α) (B : List α) (m : Nat) : ∀ A : List α, (A ++ v :: B).drop (A.length + 1 + m) = B.drop m
  | [] => by simp [Nat.add_comm 1 m]
  | a :: A => by
    have := drop_mid v B m A
    simp only [List.length_cons, List.cons_append]
    rw [show A.length + 1 + 1 + m = (A.length + 1 + m) + 1 by omega, List.drop_succ_cons]; exact this

theorem foldl_put (vs : List Value) (off : Nat) : ∀ (k : Nat) (cs : List Value), off + k + vs.length ≤ cs.length →
    (((vs.zipIdx k).foldl (fun (cs : Array Value) x => cs.setIfInBounds (off + x.2) x.1) cs.toArray)) = (cs.take (off + k) ++ (vs ++ cs.drop (off + k + vs.length))).toArray := by
  induction vs with
  | nil => intro k cs _; simp
  | cons v vs ih =>
    intro k cs hle
    simp only [List.zipIdx_cons, List.foldl_cons, List.length_cons] at hle ⊢
    rw [show cs.toArray.setIfInBounds (off + k) v = (cs.set (off + k) v).toArray by simp, ih (k + 1) _ (by simp; omega)]
    congr 1
    rw [List.set_eq_take_append_cons_drop, if_pos (by omega)]
    have e1 : (cs.take (off + k)).length = off + k := by simp; omega
    have t := take_mid v (cs.drop (off + k + 1)) (cs.take (off + k))
    have d := drop_mid v (cs.drop (off + k + 1)) vs.length (cs.take (off + k))
    rw [e1] at t d
    rw [show off + (k + 1) = off + k + 1 by omega, t, d, List.drop_drop, show off + k + 1 + vs.length = off + k + (vs.length + 1) by omega]
    simp

theorem VRs.splice {cs xs : List AV} {vs ws : List Value} (h : VRs K cs vs) (h' : VRs K xs ws) (off : Nat) : VRs K (splice cs off xs) (vs.take off ++ (ws ++ vs.drop (off + xs.length))) := by
  unfold Go.Vm.splice
  exact (h.take off).append (h'.append (h.drop _))

theorem fill_sound {nt : Nat} {ρ : Env} {a : Act} (hρ : EnvR K nt ρ a) {place : Nat → Option (Nat × Nat)} : ∀ {ps : List (Nat × Operand)} {ps' : List (Nat × Nat × Arg)} {cs cs' : List AV} {vs : List Value},
    trParts nt place ps = some ps' → VRs K cs vs → cs.all AV.isCell = true → fill ρ cs ps' = some cs' →
    ∃ vs', Instr.fill place vs.toArray (ps.map fun p => (p.1, a.eval p.2)) = some vs'.toArray ∧ VRs K cs' vs' ∧ vs'.length = vs.length ∧ cs'.all AV.isCell = true
  | [], ps', cs, cs', vs, hp, hv, hcc, hf => by
    simp [trParts] at hp; subst hp
    simp [fill] at hf; subst hf
    exact ⟨vs, by simp [Instr.fill], hv, rfl, hcc⟩
  | (i, x) :: ps, ps', cs, cs', vs, hp, hv, hcc, hf => by
    simp only [trParts, List.mapM_cons, Option.bind_eq_bind, Option.bind_eq_some_iff, Option.pure_def, Option.some.injEq, Option.map_eq_some_iff] at hp
    obtain ⟨q, ⟨⟨off, n⟩, hpl, y, hy, rfl⟩, qs, hqs, rfl⟩ := hp
    simp only [fill] at hf
    split at hf
    · rename_i hcond
      obtain ⟨hlen, hle, hcell⟩ := hcond
      have hxv := arg_sound hρ hy
      have htup : ∀ l, y.get ρ ≠ .tup l := by
        intro l e
        rw [e] at hcell; simp [AV.cells, AV.isCell] at hcell
      have hxc := (hxv.cells htup).1
      have hsz : (a.eval x).cells.size = n := by rw [← hlen, ← hxc.1]; simp
      have hl := hv.1
      obtain ⟨vs', h1, h2, h3, h4⟩ := fill_sound hρ hqs (hv.splice hxc off) (all_splice hcc hcell) hf
      refine ⟨vs', ?_, h2, ?_, h4⟩
      · simp only [List.map_cons, Instr.fill, hpl, hsz]
        rw [if_neg (by simp; omega)]
        have hz : (a.eval x).cells.zipIdx.foldl (fun cs x => cs.setIfInBounds (off + x.2) x.1) vs.toArray = (vs.take off ++ ((a.eval x).cells.toList ++ vs.drop (off + (y.get ρ).cells.length))).toArray := by
          have := foldl_put (a.eval x).cells.toList off 0 vs (by simp [hsz]; omega)
          rw [← Array.foldl_toList, Array.toList_zipIdx]
          rw [this]
          simp [hsz, hlen]
        rw [hz]; exact h1
      · rw [h3]
        simp [hsz, hlen]; omega
    · simp at hf

end
end Go.Vm
