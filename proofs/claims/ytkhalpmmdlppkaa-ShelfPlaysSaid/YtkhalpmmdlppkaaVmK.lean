/-
  THE GENERIC LAYER 'Vm', part K: each operation that is no call and no map's, put together.
-/
import Derived.Test.YtkhalpmmdlppkaaVmJ
namespace Go.Vm
section
variable {P : Program} {K : Ctx}

theorem asNat_vr {x : AV} {vx : Value} (hx : VR K x vx) {n : Nat} (h : asNat x = some n) : ∃ k, vx = .int k n := by
  obtain ⟨k, rfl⟩ := asNat_int h
  cases hx; exact ⟨k, rfl⟩

theorem iaArr_sound {x v : AV} {vx vi : Value} (hx : VR K x vx) {i : AV} (hi : VR K i vi) {k : Nat} (hk : asNat i = some k) {t e : TypeId} {n : Nat} (hu : P.underlying t = some (.array n e)) {sh : Bool × Nat}
    (hsh : shapeOf P e = some sh) (hkn : k < n) (h : addOff (k * sh.2) x = some v) :
    ∃ v', (Instr.indexAt t vx vi).run P K.w = .ok v' K.w ∧ VR K v v' := by
  obtain ⟨kk, rfl⟩ := asNat_vr hi hk
  obtain ⟨hs, _⟩ := run_sizeOf' (agg := sh.1) (n := sh.2) hsh K.w
  have key : ∀ a, vx = .pointer (some a) → (Instr.indexAt t vx (.int kk k)).run P K.w = .ok (.pointer (some (a.add (k * sh.2)))) K.w := by
    intro a e1; subst e1
    have : (0 : Int) ≤ (k : Int) ∧ (k : Int) < n := ⟨by omega, by omega⟩
    simp [Instr.indexAt, asIntOf, run_underlying hu, Instr.sureAddr, hs, show k < n from hkn]
  cases hx <;> simp only [addOff, Option.some.injEq, reduceCtorEq] at h
  case ptr j off a hb hpa =>
    subst h
    refine ⟨_, key _ rfl, .ptr hb fun b d hm => ?_⟩
    rw [hpa b d hm, addr_add, Nat.add_assoc]
  case iptr f cs off b o g hlt hfree hfm hcell hnr hc hv =>
    subst h
    refine ⟨_, key _ rfl, ?_⟩
    rw [addr_add, Nat.add_assoc]
    exact .iptr g hlt hfree hfm hcell hnr hc hv

theorem iaSl_sound {x v : AV} {vx vi : Value} (hx : VR K x vx) {i : AV} (hi : VR K i vi) {k : Nat} (hk : asNat i = some k) {t e : TypeId} (hu : P.underlying t = some (.slice e)) {sh : Bool × Nat}
    (hsh : shapeOf P e = some sh) (h : elemPtr sh.2 k x = some v) :
    ∃ v', (Instr.indexAt t vx vi).run P K.w = .ok v' K.w ∧ VR K v v' := by
  obtain ⟨kk, rfl⟩ := asNat_vr hi hk
  obtain ⟨hs, _⟩ := run_sizeOf' (agg := sh.1) (n := sh.2) hsh K.w
  have key : ∀ a n c, vx = .slice (some a) n c → k < n → (Instr.indexAt t vx (.int kk k)).run P K.w = .ok (.pointer (some (a.add (k * sh.2)))) K.w := by
    intro a n c e1 hkn; subst e1
    simp [Instr.indexAt, asIntOf, run_underlying hu, hkn, hs]
  cases hx <;> simp only [elemPtr, reduceCtorEq] at h
  case sl j off len sz cap a c hb hpa hl hcap hrm =>
    split at h <;> simp only [Option.some.injEq, reduceCtorEq] at h
    rename_i hkn
    subst h
    refine ⟨_, key _ _ _ rfl hkn, .ptr hb fun b d hm => ?_⟩
    rw [hpa b d hm, addr_add, Nat.add_assoc]
  case isl f cs len cap b o c g hpos hcell hnr hc hv hl hcap =>
    split at h <;> simp only [Option.some.injEq, reduceCtorEq] at h
    rename_i hkn
    subst h
    obtain ⟨p1, p2, p3⟩ := hpos hkn.2
    refine ⟨_, key _ _ _ rfl hkn.1, ?_⟩
    rw [addr_add]
    exact .iptr g p1 p2 p3 hcell hnr hc hv
  case islE => simp at h
  case islNil => simp at h

theorem faddr_sound {x v : AV} {vx : Value} (hx : VR K x vx) {s : TypeId} {fields : Array Field} {f : Nat} {fd : Field} (hu : P.underlying s = some (.struct fields)) (hf : fields[f]? = some fd)
    {sh : Bool × Nat} (hsh : shapeOf P fd.type = some sh) (h0 : sh.2 ≠ 0) (h : addOff fd.offset x = some v) :
    ∃ v', (Instr.fieldAt s vx f).run P K.w = .ok v' K.w ∧ VR K v v' := by
  obtain ⟨hs, _⟩ := run_sizeOf' (agg := sh.1) (n := sh.2) hsh K.w
  have key : ∀ a, vx = .pointer (some a) → (Instr.fieldAt s vx f).run P K.w = .ok (.pointer (some (a.add fd.offset))) K.w := by
    intro a e1; subst e1
    simp only [Instr.fieldAt, Sem.run_bind, run_underlying hu, Result.andThen_ok, hf, Instr.sureAddr, Sem.run_pure, fieldPlace, hs, h0, if_false]
  cases hx <;> simp only [addOff, Option.some.injEq, reduceCtorEq] at h
  case ptr j off a hb hpa =>
    subst h
    refine ⟨_, key _ rfl, .ptr hb fun b d hm => ?_⟩
    rw [hpa b d hm, addr_add, Nat.add_assoc]
  case iptr f cs off b o g hlt hfree hfm hcell hnr hc hv =>
    subst h
    refine ⟨_, key _ rfl, ?_⟩
    rw [addr_add, Nat.add_assoc]
    exact .iptr g hlt hfree hfm hcell hnr hc hv

theorem fld_sound {x v : AV} {vx : Value} (hx : VR K x vx) {s : TypeId} {fields : Array Field} {f : Nat} {fd : Field} (hu : P.underlying s = some (.struct fields)) (hf : fields[f]? = some fd)
    {sh : Bool × Nat} (hsh : shapeOf P fd.type = some sh) {cs : List AV} (hxc : x = .agg cs) (h : part sh.1 sh.2 fd.offset cs = some v) :
    ∃ v', (Instr.field s vx f).run P K.w = .ok v' K.w ∧ VR K v v' := by
  subst hxc
  cases hx with
  | agg g h1 hcell hv =>
    obtain ⟨v', hr, hvr⟩ := part_agg (P := P) (w := K.w) (cs := cs) (vs := g.toList) ⟨by simpa using h1, fun j hj => by simpa using hv j hj⟩ hcell h (t := fd.type) (by simpa using hsh)
    refine ⟨v', ?_, hvr⟩
    simp only [Instr.field, Sem.run_bind, run_underlying hu, Result.andThen_ok, hf, asAgg, Sem.run_pure]
    simpa using hr

theorem ixArr_sound {v : AV} {vx vi : Value} {cs : List AV} (hx : VR K (.agg cs) vx) {i : AV} (hi : VR K i vi) {k : Nat} (hk : asNat i = some k) {t e : TypeId} {n : Nat} (hu : P.underlying t = some (.array n e)) {sh : Bool × Nat}
    (hsh : shapeOf P e = some sh) (hkn : k < n) (h : part sh.1 sh.2 (k * sh.2) cs = some v) : ∃ v', (Instr.index t vx vi).run P K.w = .ok v' K.w ∧ VR K v v' := by
  obtain ⟨kk, rfl⟩ := asNat_vr hi hk
  obtain ⟨hs, _⟩ := run_sizeOf' (agg := sh.1) (n := sh.2) hsh K.w
  cases hx with
  | agg g h1 hcell hv =>
    obtain ⟨v', hr, hvr⟩ := part_agg (P := P) (w := K.w) (cs := cs) (vs := g.toList) ⟨by simpa using h1, fun j hj => by simpa using hv j hj⟩ hcell h (t := e) (by simpa using hsh)
    refine ⟨v', ?_, hvr⟩
    have : (0 : Int) ≤ (k : Int) ∧ (k : Int) < n := ⟨by omega, by omega⟩
    simp [Instr.index, asIntOf, run_underlying hu, show k < n from hkn, hs]
    simpa using hr

theorem ixStr_sound {s : List UInt8} {vi : Value} {i : AV} (hi : VR K i vi) {k : Nat} (hk : asNat i = some k) {t : TypeId} (hu : P.underlying t = some .string) {b : UInt8} (h : s[k]? = some b) :
    ∃ v', (Instr.index t (.string ⟨s.toArray⟩) vi).run P K.w = .ok v' K.w ∧ VR K (.int .u8 b.toNat) v' := by
  obtain ⟨kk, rfl⟩ := asNat_vr hi hk
  refine ⟨_, ?_, .int _ _⟩
  obtain ⟨hlt, rfl⟩ := List.getElem?_eq_some_iff.1 h
  have : (ByteArray.mk s.toArray)[k]? = some s[k] := by
    rw [getElem?_pos (ByteArray.mk s.toArray) k (by simp [ByteArray.size]; exact hlt)]; rfl
  simp [Instr.index, asIntOf, run_underlying hu, this]

theorem minmax_sound {mx : Bool} : ∀ {xs : List AV} {x v : AV} {vs : List Value} {vx : Value}, VR K x vx → VRs K xs vs → minmaxL mx x xs = some v →
    ∃ v', (vs.foldlM (if mx then Builtin.max2 else Builtin.min2) vx).run P K.w = .ok v' K.w ∧ VR K v v'
  | [], x, v, vs, vx, hx, hs, h => by
    simp [minmaxL] at h; subst h
    have : vs = [] := List.eq_nil_of_length_eq_zero (by simpa using hs.1)
    subst this
    exact ⟨vx, rfl, hx⟩
  | y :: ys, x, v, vs, vx, hx, hs, h => by
    cases vs with
    | nil => have := hs.1; simp at this
    | cons vy vs =>
      have hy : VR K y vy := hs.2 0 (by simp)
      have hs' : VRs K ys vs := by simpa using hs.drop 1
      unfold minmaxL at h
      split at h
      · simp at *
      · rename_i k a k' b rest heq
        simp only [List.cons.injEq] at heq
        obtain ⟨rfl, rfl⟩ := heq
        split at h
        · rename_i e; subst e
          cases hx; cases hy
          obtain ⟨v', h1, h2⟩ := minmax_sound (VR.int k (if mx then (if b > a then b else a) else (if b < a then b else a))) hs' h
          refine ⟨v', ?_, h2⟩
          simp only [List.foldlM_cons, Sem.run_bind]
          cases mx
          · simp only [Bool.false_eq_true, if_false] at h1 ⊢
            simp only [Builtin.min2, Sem.run_pure, Result.andThen_ok]; exact h1
          · simp only [if_true] at h1 ⊢
            simp only [Builtin.max2, Sem.run_pure, Result.andThen_ok]; exact h1
        · simp at h
      · simp at h

end
end Go.Vm
