/-
  THE GENERIC LAYER 'Vm', part H: elements, append, copy, make, conversions of bytes.
-/
import Derived.Test.YtkhalpmmdlppkaaVmG
import Derived.Laws.BytesString
import Derived.Laws.Strings2
import Derived.Lib.ConvBytes
import Derived.Laws.AppendOwn
namespace Go.Vm
section
variable {P : Program} {K : Ctx}

theorem run_cells' {b o : Nat} {cs : List AV} (h : RowAt K b o cs) :
    ∃ vs : List Value, VRs K cs vs ∧ ∀ w', w'.heap = K.w.heap → (loadCells ⟨b, o, none⟩ cs.length).run P w' = .ok vs.toArray w' := by
  obtain ⟨h0, g, h1, h2⟩ := h
  refine ⟨(List.range cs.length).map g, ⟨by simp, fun j hj => ?_⟩, fun w' hw => ?_⟩
  · simp [hj]; exact h2 j hj
  · exact run_loadCells w' _ _ g fun j hj => by rw [addr_add, cell?_congr (w := K.w) (w' := w') (by rw [hw])]; exact h1 j hj

theorem lenOf_sound {x : AV} {vx : Value} (hx : VR K x vx) {n : Nat} (h : lenOf x = some n) (w : World) : (Builtin.lenOf vx).run P w = .ok n w := by
  cases hx <;> simp [lenOf] at h <;> subst h <;> first | rfl | simp [Builtin.lenOf, ByteArray.size]

theorem elems_sound {σ : St} (hK : Rel K σ) {x : AV} {vx : Value} (hx : VR K x vx) {sz n : Nat} {cs : List AV} (h : elems σ sz n x = some cs) :
    cs.length = n * sz ∧ cs.all AV.isCell = true ∧ ∃ vs : List Value, VRs K cs vs ∧ ∀ w', w'.heap = K.w.heap → (Builtin.firstCells sz n vx).run P w' = .ok vs.toArray w' := by
  unfold elems at h
  split at h
  · split at h <;> simp only [Option.some.injEq, reduceCtorEq] at h
    rename_i h0; subst h
    cases hx
    exact ⟨by simp [h0], rfl, [], VRs.nil K, fun w' _ => by simp [Builtin.firstCells]⟩
  · split at h <;> simp only [Option.some.injEq, reduceCtorEq] at h
    rename_i h0; subst h
    cases hx
    exact ⟨by simp [h0], rfl, [], VRs.nil K, fun w' _ => by simp [Builtin.firstCells, h0, loadCells, loadCellsFrom]⟩
  · rename_i i off _ _ _
    simp only [Option.bind_eq_some_iff] at h
    obtain ⟨bs, hg, h⟩ := h
    split at h <;> simp only [Option.some.injEq, reduceCtorEq] at h
    rename_i hle; subst h
    obtain ⟨b, d, hm, hrow, _⟩ := hK.row hg
    have hsub := hrow.sub off (n * sz)
    obtain ⟨vs, hv, hr⟩ := run_cells' (P := P) hsub
    have hl : ((bs.drop off).take (n * sz)).length = n * sz := by simp; omega
    cases hx with
    | sl hb hpa hl2 hcap hrm =>
      refine ⟨hl, hsub.1, vs, hv, fun w' hw => ?_⟩
      have := hr w' hw
      rw [hl] at this
      simp only [Builtin.firstCells, hpa b d hm]; exact this
  · rename_i f bs _ _
    split at h <;> simp only [Option.some.injEq, reduceCtorEq] at h
    rename_i hle; subst h
    have hl : (bs.take (n * sz)).length = n * sz := by simp; omega
    cases hx with
    | isl g hpos hcell hnr hc hv hl2 hcap =>
      have hrow : RowAt K _ _ bs := ⟨hcell, g, hc, hv⟩
      obtain ⟨vs, hv, hr⟩ := run_cells' (P := P) (hrow.take (n * sz))
      refine ⟨hl, (hrow.take (n * sz)).1, vs, hv, fun w' hw => ?_⟩
      have := hr w' hw
      rw [hl] at this
      exact this
    | islE =>
      simp at hle
      simp only [List.take_nil]
      exact ⟨by simpa using hl, rfl, [], VRs.nil K, fun w' _ => by simp [Builtin.firstCells, hle, loadCells, loadCellsFrom]⟩
    | islNil =>
      simp only [List.take_nil]
      exact ⟨by simpa using hl, rfl, [], VRs.nil K, fun w' _ => by simp [Builtin.firstCells]⟩
  · rename_i s
    split at h <;> simp only [Option.some.injEq, reduceCtorEq] at h
    rename_i hc
    obtain ⟨rfl, hn⟩ := hc
    subst h
    cases hx
    refine ⟨by simp; omega, List.all_eq_true.2 fun x hx => by obtain ⟨b, _, rfl⟩ := List.mem_map.1 hx; rfl, (s.take n).map fun b => .int .u8 b.toNat, ⟨by simp, fun j hj => ?_⟩, fun w' _ => ?_⟩
    · simp only [List.length_map] at hj
      rw [List.getElem_map, List.getElem?_map, List.getElem?_eq_getElem hj]
      exact .int _ _
    · simp only [Builtin.firstCells, Sem.run_pure, ByteArray.extract_mk]
      simp
  · simp at h

theorem zeroCells_flat {z : List AV} {zv : Array Value} (h : VRs K z zv.toList) : ∀ n, VRs K (List.replicate n z).flatten (Builtin.zeroCells zv n).toList := by
  intro n
  have hzs : zv.size = z.length := by have := h.1; simpa using this
  have hlen : ∀ n, (List.replicate n z).flatten.length = n * z.length := by intro n; simp
  refine ⟨by simp [Builtin.zeroCells, hzs], fun j hj => ?_⟩
  rw [hlen] at hj
  have hz : 0 < z.length := by
    rcases Nat.eq_zero_or_pos z.length with e | e
    · rw [e] at hj; omega
    · exact e
  have hget : ∀ n j (hj : j < (List.replicate n z).flatten.length), (List.replicate n z).flatten[j]? = z[j % z.length]? := by
    intro n
    induction n with
    | zero => intro j hj; simp at hj
    | succ n ih =>
      intro j hj
      rw [List.replicate_succ, List.flatten_cons]
      by_cases hlt : j < z.length
      · rw [List.getElem?_append_left hlt, Nat.mod_eq_of_lt hlt]
      · have e1 := hlen (n + 1)
        have e2 := hlen n
        rw [Nat.succ_mul] at e1
        rw [List.getElem?_append_right (by omega), ih (j - z.length) (by omega), Nat.mod_eq_sub_mod (show j ≥ z.length by omega)]
  have hmod : j % z.length < z.length := Nat.mod_lt _ hz
  have h1 := hget n j (by rw [hlen]; exact hj)
  rw [List.getElem?_eq_getElem (by rw [hlen]; exact hj), List.getElem?_eq_getElem hmod] at h1
  simp only [Option.some.injEq] at h1
  rw [h1]
  have h2 := h.2 (j % z.length) hmod
  have h3 : (Builtin.zeroCells zv n).toList[j]? = some (zv[j % zv.size]!) := by
    simp [Builtin.zeroCells, hzs, hj]
  rw [h3]
  have h4 : zv[j % zv.size]! = zv.toList[j % z.length]?.getD undef := by
    rw [hzs, getElem!_pos zv (j % z.length) (by rw [hzs]; exact hmod)]
    simp [Array.getElem?_eq_getElem (show j % z.length < zv.size by rw [hzs]; exact hmod)]
  rw [h4]; exact h2


theorem growBy_fit {need c bytes : Nat} (h : c < need) (hb : need * bytes ≤ lenMax) : Builtin.nextslicecap need c * bytes ≤ 2 ^ 48 := by
  have h1 := nextslicecap_le h
  have : Builtin.nextslicecap need c * bytes ≤ 2 * need * bytes := Nat.mul_le_mul_right _ h1
  rw [Nat.mul_assoc] at this
  have : lenMax = 2 ^ 46 := rfl
  omega


/-- The built-in append, in the model's own steps. -/
theorem run_append {sT xT ty e : TypeId} {i : TypeInfo} {z : Value} (hs : P.underlying sT = some (.slice e)) (hi : P.info? e = some i) (hz : i.zero = some z)
    {dx : TypeDesc} (hx : P.underlying xT = some dx) (hxi : ∀ k, dx ≠ .int k) {base : Option Addr} {sLen sCap n : Nat} {x : Value} {old news : List Value} {w : World}
    (hlen : ∀ w', (Builtin.lenOf x).run P w' = .ok n w') (hnews : ∀ w', w'.heap = w.heap → (Builtin.firstCells i.size n x).run P w' = .ok news.toArray w')
    (hold : sCap < sLen + n → ∀ w', w'.heap = w.heap → (Builtin.firstCells i.size sLen (.slice base sLen sCap)).run P w' = .ok old.toArray w')
    (hfit : sCap < sLen + n → Builtin.nextslicecap (sLen + n) sCap * i.bytes ≤ 2 ^ 48) (hby : sCap < sLen + n → ¬ (((sLen + n : Nat) : Int) > IntKind.i64.max ∧ i.bytes = 0)) :
    (sLen + n ≤ sCap → (Builtin.append_ #[sT, xT] ty #[.slice base sLen sCap, x]).run P w =
      (match base with | some a => ((Go.storeCells (a.add (sLen * i.size)) news).run P w).andThen fun _ w' => .ok (.slice base (sLen + n) sCap) w' | none => .ok (.slice base (sLen + n) sCap) w)) ∧
    (sCap < sLen + n → ∃ (cap : Nat) (arr : Array Value) (w' : World), sLen + n ≤ cap ∧ w'.heap = w.heap.push (.cells arr e (0, 0)) ∧ (w'.os = w.os ∧ w'.output = w.output) ∧
      arr = (old ++ news).toArray ++ Builtin.zeroCells z.cells (cap - (sLen + n)) ∧
      (Builtin.append_ #[sT, xT] ty #[.slice base sLen sCap, x]).run P w = .ok (.slice (some ⟨w.heap.size, 0, none⟩) (sLen + n) cap) w') := by
  have hzero : ((match dx with | .int _ => true | _ => false : Bool)) = false := by cases dx <;> first | rfl | exact absurd rfl (hxi _)
  refine ⟨fun hle => ?_, fun hlt => ?_⟩
  · simp only [Builtin.append_, List.getElem?_toArray, List.getElem?_cons_zero, List.getElem?_cons_succ, Sem.run_bind, run_underlying hs, Result.andThen_ok, sizeOf, typeInfo, hi, Sem.run_pure, run_program, run_underlying hx]
    cases dx <;> first | exact absurd rfl (hxi _) | skip
    all_goals
      simp [hlen, hle, hnews w rfl]
      cases base <;> simp
  · have hn : ¬ (sLen + n ≤ sCap) := by omega
    have hge := grownCap_ge w (sLen + n) sCap e
    refine ⟨grownCap w (sLen + n) sCap e, _, (w.drew).alloc (.cells ((old ++ news).toArray ++ Builtin.zeroCells z.cells (grownCap w (sLen + n) sCap e - (sLen + n))) e), hge, rfl, ⟨rfl, rfl⟩, rfl, ?_⟩
    have hf := hfit hlt
    have hb := hby hlt
    have ho := hold hlt w.drew rfl
    have hnw := hnews w.drew rfl
    simp only [Builtin.append_, List.getElem?_toArray, List.getElem?_cons_zero, List.getElem?_cons_succ, Sem.run_bind, run_underlying hs, Result.andThen_ok, sizeOf, typeInfo, hi, Sem.run_pure, run_program, run_underlying hx]
    cases dx <;> first | exact absurd rfl (hxi _) | skip
    all_goals
      have hb' : ¬ (9223372036854775807 < (sLen : Int) + n ∧ i.bytes = 0) := by
        simpa [IntKind.max, IntKind.signed, IntKind.bits] using hb
      have hf' : ¬ (281474976710656 < Builtin.nextslicecap (sLen + n) sCap * i.bytes) := by omega
      simp [hlen, hn, Question.forced, hi, hz, hb', hf', zeroValue, typeInfo, newRow, ho, hnw, grownCap]
      rw [show (old ++ news).toArray = old.toArray ++ news.toArray by simp, Array.append_assoc]


theorem newCells_eq {σ σ' : St} {cs : List AV} {i : Id} (h : newCells σ cs = some (i, σ')) : cs.all AV.isCell = true ∧ i = ⟨σ.next, 0, 0⟩ ∧ σ' = σ.bind (fun _ => false) (.cells cs) := by
  unfold newCells at h
  split at h
  · rename_i hc
    simp only [Option.some.injEq, St.alloc_eq, Prod.mk.injEq] at h
    exact ⟨hc, h.1.symm, h.2.symm⟩
  · simp at h

/-- A new row: its first cells are these. -/
theorem new_sound {σ : St} (hK : Rel K σ) {cs : List AV} {vs : List Value} (D : Id → Bool) (hc : cs.all AV.isCell = true) (hs : VRs K cs vs) {w' : World} {arr : Array Value} {T : TypeId} {fz : Nat × Nat}
    (hw : w'.heap = K.w.heap.push (.cells arr T fz)) (hout : w'.os = K.w.os ∧ w'.output = K.w.output) (hpre : ∀ j, j < vs.length → arr[j]? = vs[j]?) (hfz : fz.1 = fz.2 ∨ arr.size ≤ fz.1) :
    ∃ K', K'.w = w' ∧ Step K K' ∧ Rel K' (σ.bind D (.cells cs)) ∧ (∀ n, VR K' (.ptr ⟨σ.next, 0, 0⟩ n) (.pointer (some ⟨K.w.heap.size, n, none⟩))) ∧
      (∀ sz n c cap, n ≤ c → CapS cap c → c * sz ≤ arr.size → VR K' (.sl ⟨σ.next, 0, 0⟩ 0 n cap sz) (.slice (some ⟨K.w.heap.size, 0, none⟩) n c)) := by
  have hle : vs.length ≤ arr.size := by
    rcases Nat.lt_or_ge arr.size vs.length with h | h
    · have := hpre arr.size h
      simp [h] at this
    · exact h
  have hrm : ∀ j, j < arr.size → Room w' K.w.heap.size j := fun j hj => by
    refine ⟨by simp [World.cell?, hw, hj], ?_⟩
    simp only [World.frozen?, hw, Array.getElem?_push_size, Bool.and_eq_false_imp, decide_eq_true_eq, decide_eq_false_iff_not]
    omega
  obtain ⟨K', h1, h2, h3, h4, h5⟩ := push_sound hK D hw hout (x := .cells cs) (fun K' he hw' => by
    refine ⟨hc, ?_, fun j => vs[j]?.getD undef, fun j hj => ⟨?_, ?_⟩, fun j hj => (hs.2 j hj).ext he⟩
    · intro C e lo hi hh
      rw [hw', hw] at hh
      simp at hh
      obtain ⟨rfl, rfl, rfl⟩ := hh
      exact hfz
    · have hj' : j < vs.length := hs.1 ▸ hj
      simp only [World.cell?, hw', hw, Nat.zero_add]
      simp [hpre j hj', List.getElem?_eq_getElem hj']
    · rw [hw', Nat.zero_add]
      exact (hrm j (by have := hs.1; omega)).2)
  refine ⟨K', h1, h2, h3, fun n => .ptr h5 fun b d hm => ?_, fun sz n c cap hn hcap hsz => .sl h5 (fun b d hm => ?_) hn hcap (fun b d hm j hj => ?_)⟩
  · rw [h4] at hm; simp only [Option.some.injEq, Prod.mk.injEq] at hm; obtain ⟨rfl, rfl⟩ := hm; simp
  · rw [h4] at hm; simp only [Option.some.injEq, Prod.mk.injEq] at hm; obtain ⟨rfl, rfl⟩ := hm; simp
  · rw [h4] at hm; simp only [Option.some.injEq, Prod.mk.injEq] at hm; obtain ⟨rfl, rfl⟩ := hm
    rw [h1]; simpa using hrm j (by omega)

theorem CapS.room {cap : Cap} {c : Nat} (h : CapS cap c) : cap.room ≤ c := by cases cap <;> simp [CapS, Cap.room] at h ⊢ <;> omega

theorem le_of_bytes {a b c : Nat} (h : 0 < b) (h' : a * b ≤ c) : a ≤ c := Nat.le_trans (Nat.le_mul_of_pos_right _ h) h'

theorem append_core {σ σ' : St} (hK : Rel K σ) {s v : AV} {vs vx : Value} (hs : VR K s vs) {sT xT ty e : TypeId} {i : TypeInfo} {z : List AV} (zf : Bool)
    (hby : 0 < i.bytes) (hzl : z.length = i.size) {zv : Value} (hzs : VRs K z zv.cells.toList) {n : Nat} {xs : List AV} {xv : List Value} (hxl : xs.length = n * i.size) (hxc : xs.all AV.isCell = true) (hxv : VRs K xs xv)
    (hbig : zf = true → n ≤ 2 ^ 60 ∧ s.noIsl = true)
    (inPlace : ∀ {base : Option Addr} {sLen sCap : Nat}, sLen + n ≤ sCap → (Builtin.append_ #[sT, xT] ty #[.slice base sLen sCap, vx]).run P K.w =
      (match base with | some a => ((Go.storeCells (a.add (sLen * i.size)) xv).run P K.w).andThen fun _ w' => .ok (.slice base (sLen + n) sCap) w' | none => .ok (.slice base (sLen + n) sCap) K.w))
    (growRun : ∀ {base : Option Addr} {sLen sCap : Nat} {old : List Value}, sCap < sLen + n → (∀ w', w'.heap = K.w.heap → (Builtin.firstCells i.size sLen (.slice base sLen sCap)).run P w' = .ok old.toArray w') →
      Builtin.nextslicecap (sLen + n) sCap * i.bytes ≤ 2 ^ 48 → ¬ (((sLen + n : Nat) : Int) > IntKind.i64.max ∧ (zf = true ∨ i.bytes = 0)) →
      ∃ (cap : Nat) (arr : Array Value) (w' : World), sLen + n ≤ cap ∧ w'.heap = K.w.heap.push (.cells arr e (0, 0)) ∧ (w'.os = K.w.os ∧ w'.output = K.w.output) ∧
      arr = (old ++ xv).toArray ++ Builtin.zeroCells zv.cells (cap - (sLen + n)) ∧
      (Builtin.append_ #[sT, xT] ty #[.slice base sLen sCap, vx]).run P K.w = .ok (.slice (some ⟨K.w.heap.size, 0, none⟩) (sLen + n) cap) w')
    (h : appendTo σ i.size i.bytes n xs s = some (v, σ')) :
    ∃ K' v', (Builtin.append_ #[sT, xT] ty #[vs, vx]).run P K.w = .ok v' K'.w ∧ Step K K' ∧ Rel K' σ' ∧ VR K' v v' := by
  have hmax : IntKind.i64.max = 9223372036854775807 := by decide
  have nothing : ∀ {base : Option Addr} {sLen sCap : Nat}, n = 0 → sLen ≤ sCap → (Builtin.append_ #[sT, xT] ty #[.slice base sLen sCap, vx]).run P K.w = .ok (.slice base sLen sCap) K.w := by
    intro base sLen sCap h0 hle
    have hx0 : xv = [] := List.eq_nil_of_length_eq_zero (by rw [hxv.1, hxl, h0]; simp)
    rw [inPlace (by omega), hx0, h0]
    cases base <;> simp [Go.storeCells]
  have grow : ∀ {base : Option Addr} {sLen sCap : Nat} {old : List AV} {ov : List Value} (D : Id → Bool), sCap < sLen + n → old.length = sLen * i.size → VRs K old ov → old.all AV.isCell = true → 
      (∀ w', w'.heap = K.w.heap → (Builtin.firstCells i.size sLen (.slice base sLen sCap)).run P w' = .ok ov.toArray w') →
      Builtin.nextslicecap (sLen + n) sCap * i.bytes ≤ 2 ^ 48 → ¬ (((sLen + n : Nat) : Int) > IntKind.i64.max ∧ (zf = true ∨ i.bytes = 0)) →
      ∃ K' v', (Builtin.append_ #[sT, xT] ty #[.slice base sLen sCap, vx]).run P K.w = .ok v' K'.w ∧ Step K K' ∧ Rel K' (σ.bind D (.cells (old ++ xs))) ∧
        VR K' (.sl ⟨σ.next, 0, 0⟩ 0 (sLen + n) (.ge (sLen + n)) i.size) v' := by
    intro base sLen sCap old ov D hlt hol hov hoc hold hfit hby
    obtain ⟨cap, arr, w', hcap, hw', hout', harr, hrun⟩ := growRun hlt hold hfit hby
    have hzsz : zv.cells.size = i.size := by rw [← hzl]; simpa using hzs.1
    have hasz : arr.size = cap * i.size := by
      rw [harr, Array.size_append, size_zeroCells, hzsz]
      simp only [List.size_toArray, List.length_append, hov.1, hxv.1, hxl, hol]
      rw [← Nat.add_mul, ← Nat.add_mul]; congr 1; omega
    obtain ⟨K', h1, h2, h3, _, h4⟩ := new_sound hK D (by rw [List.all_append, hoc, hxc]; rfl) (hov.append hxv) hw' hout' (fun j hj => by
      rw [harr, Array.getElem?_append_left (by simpa using hj)]; simp) (.inl rfl)
    exact ⟨K', _, by rw [h1]; exact hrun, h2, h3, h4 _ _ _ _ hcap hcap (by rw [hasz]; exact Nat.le_refl _)⟩
  have no : ∀ m : Nat, (zf = true → m ≤ 2 ^ 60) → ¬ ((m : Int) > IntKind.i64.max ∧ (zf = true ∨ i.bytes = 0)) := by
    rintro m hm ⟨h6, h7 | h7⟩
    · have := hm h7; omega
    · omega
  unfold appendTo at h
  split at h
  · -- nil
    cases hs
    split at h
    · rename_i h0
      simp only [Option.some.injEq, Prod.mk.injEq] at h; obtain ⟨rfl, rfl⟩ := h
      exact ⟨K, _, nothing h0 (Nat.le_refl _), Step.refl K, hK, .nilsl⟩
    · rename_i h0
      split at h
      · rename_i hb
        simp only [Option.map_eq_some_iff] at h
        obtain ⟨⟨j, σ1⟩, hnew, h⟩ := h
        obtain ⟨hc1, rfl, rfl⟩ := newCells_eq hnew
        simp only [Prod.mk.injEq] at h; obtain ⟨rfl, rfl⟩ := h
        have hg : growMax = 2 ^ 48 := rfl
        have h5 := nextslicecap_zero (need := n) (by omega)
        have := grow (base := none) (sLen := 0) (sCap := 0) (old := []) (ov := []) (fun _ => false) (by omega) (by simp) (VRs.nil K) rfl (fun w' _ => by simp [Builtin.firstCells])
          (by simp only [Nat.zero_add, h5]; omega) (no _ fun h7 => by have := (hbig h7).1; omega)
        simpa using this
      · simp at h
  · -- esl
    split at h
    · rename_i h0
      simp only [Option.some.injEq, Prod.mk.injEq] at h; obtain ⟨rfl, rfl⟩ := h
      cases hs
      exact ⟨K, _, nothing h0 (Nat.zero_le _), Step.refl K, hK, .esl⟩
    · simp at h
  · -- isl
    rename_i f cs len cap
    split at h
    · rename_i h0
      simp only [Option.some.injEq, Prod.mk.injEq] at h; obtain ⟨rfl, rfl⟩ := h
      cases hs with
      | isl g h1 h2 h3 h4 h5 h6 h7 => exact ⟨K, _, nothing h0 h6, Step.refl K, hK, .isl g h1 h2 h3 h4 h5 h6 h7⟩
      | islE h6 => exact ⟨K, _, nothing h0 (Nat.zero_le _), Step.refl K, hK, .islE h6⟩
      | islNil h6 => exact ⟨K, _, nothing h0 (Nat.zero_le _), Step.refl K, hK, .islNil h6⟩
    · split at h
      · rename_i c
        split at h
        · rename_i hcond
          obtain ⟨hlt, hle, hfit⟩ := hcond
          simp only [Option.map_eq_some_iff] at h
          obtain ⟨⟨j, σ1⟩, hnew, h⟩ := h
          obtain ⟨hc1, rfl, rfl⟩ := newCells_eq hnew
          simp only [Prod.mk.injEq] at h; obtain ⟨rfl, rfl⟩ := h
          have hel : elems σ i.size len (.isl f cs len (some c)) = some (cs.take (len * i.size)) := by simp [elems, hle]
          obtain ⟨hol, hoc, ov, hov, hold⟩ := elems_sound (P := P) hK hs hel
          have hg : growMax = 2 ^ 48 := rfl
          have fin : ∀ {base : Option Addr}, vs = .slice base len c → ∃ K' v', (Builtin.append_ #[sT, xT] ty #[vs, vx]).run P K.w = .ok v' K'.w ∧ Step K K' ∧ Rel K' (σ.bind (fun _ => false) (.cells (cs.take (len * i.size) ++ xs))) ∧
              VR K' (.sl ⟨σ.next, 0, 0⟩ 0 (len + n) (.ge (len + n)) i.size) v' := by
            intro base e; subst e
            exact grow (fun _ => false) hlt hol hov hoc hold (by omega) (no _ fun h7 => absurd (hbig h7).2 (by simp [AV.noIsl]))
          cases hs with
          | isl g h1 h2 h3 h4 h5 h6 h7 => simp only [CapR] at h7; subst h7; exact fin rfl
          | islE h6 => simp only [CapR] at h6; subst h6; exact fin rfl
          | islNil h6 => simp only [CapR] at h6; subst h6; exact fin rfl
        · simp at h
      · simp at h
  · -- sl
    rename_i j off len cap sz
    split at h
    · simp at h
    · rename_i cs hg
      cases hs with
      | @sl _ _ _ _ _ ad c hbd hpa hle hcap hrm =>
      have hroom := CapS.room hcap
      split at h
      · simp at h
      rename_i hszz
      have hszz : sz = i.size := by simpa using hszz
      subst hszz
      split at h
      · rename_i hin
        simp only [Option.map_eq_some_iff] at h
        obtain ⟨σ1, hst, h⟩ := h
        simp only [Prod.mk.injEq] at h; obtain ⟨rfl, rfl⟩ := h
        obtain ⟨K', hr, h1, h2⟩ := storeCells_sound (P := P) hK (a := ad.add (len * i.size)) hxv (fun b d hm => by rw [hpa b d hm, addr_add]; congr 1; omega) hst
        refine ⟨K', .slice (some ad) (len + n) c, ?_, h1, h2, .sl (h1.ext.bd _ hbd) (fun b d hm => hpa b d (h1.ext.mu _ hbd _ hm)) (by omega) hcap (fun b d hm j hj => h1.ext.keep _ _ (hrm b d (h1.ext.mu _ hbd _ hm) j hj))⟩
        rw [inPlace (by omega)]
        simp only [hr, Result.andThen_ok]
      · rename_i hin
        split at h
        · rename_i hcond
          obtain ⟨hof, hmx⟩ := hcond
          have hel : elems σ i.size len (.sl j off len cap i.size) = some ((cs.drop off).take (len * i.size)) := by simp [elems, hg, hof]
          obtain ⟨hol, hoc, ov, hov, hold⟩ := elems_sound (P := P) hK (.sl hbd hpa hle hcap hrm) hel
          split at h
          · rename_i c'
            simp only [Option.map_eq_some_iff] at h
            obtain ⟨⟨j', σ1⟩, hnew, h⟩ := h
            obtain ⟨hc1, rfl, rfl⟩ := newCells_eq hnew
            simp only [Prod.mk.injEq] at h; obtain ⟨rfl, rfl⟩ := h
            simp only [CapS] at hcap; subst hcap
            simp only [Cap.room] at hin
            exact grow (fun _ => false) (by omega) hol hov hoc hold (growBy_fit (by omega) hmx) (no _ fun _ => by have := le_of_bytes hby hmx; have : lenMax = 2 ^ 46 := rfl; omega)
          · rename_i c'
            simp only [Option.map_eq_some_iff] at h
            obtain ⟨⟨j', σ1⟩, hnew, h⟩ := h
            unfold newCells at hnew
            split at hnew
            · simp only [Option.some.injEq, St.set_none_alloc, Prod.mk.injEq] at hnew
              obtain ⟨rfl, rfl⟩ := hnew
              simp only [Prod.mk.injEq] at h; obtain ⟨rfl, rfl⟩ := h
              by_cases hc : c < len + n
              · exact grow _ hc hol hov hoc hold (growBy_fit hc hmx) (no _ fun _ => by have := le_of_bytes hby hmx; have : lenMax = 2 ^ 46 := rfl; omega)
              · -- there was room: the same block under another name
                have hc : len + n ≤ c := by omega
                cases hmu : K.mu j with
                | none =>
                  obtain ⟨b, d, h1, _⟩ := hK.row hg
                  rw [hmu] at h1; simp at h1
                | some p =>
                obtain ⟨b, d⟩ := p
                have had := hpa b d hmu
                subst had
                obtain ⟨b', d', hm', ⟨hcc, g, hg1, hg2⟩, hfz⟩ := hK.row hg
                rw [hmu] at hm'; simp only [Option.some.injEq, Prod.mk.injEq] at hm'; obtain ⟨rfl, rfl⟩ := hm'
                have hrm' := hrm b d hmu
                have hxvl : xv.length = n * i.size := by rw [hxv.1, hxl]
                have hmulle : (len + n) * i.size ≤ c * i.size := Nat.mul_le_mul_right _ hc
                rw [Nat.add_mul] at hmulle
                have hrun := run_storeCells_cells (P := P) b (d + (off + len * i.size)) xv 0 K.w (fun q hq => by
                  have := (hrm' (len * i.size + q) (by omega)).1
                  rw [show d + (off + len * i.size) + 0 + q = d + off + (len * i.size + q) by omega]; exact this) (fun q hq => by
                  have := (hrm' (len * i.size + q) (by omega)).2
                  rw [show d + (off + len * i.size) + 0 + q = d + off + (len * i.size + q) by omega]; exact this) (hxv.oneCell hxc)
                simp only [Nat.add_zero] at hrun
                obtain ⟨hsz', hother⟩ := heap_setCells b xv (d + (off + len * i.size)) K.w
                have hkeep : ∀ b' o', Room K.w b' o' → Room (K.w.setCells b (d + (off + len * i.size)) xv) b' o' := fun b' o' hr =>
                  ⟨World.isSome_setCells b xv _ K.w _ hr.1, by rw [World.frozen?_setCells]; exact hr.2⟩
                have hblt : b < K.w.heap.size := hK.lt _ _ _ hmu
                have hfree : ∀ b', b' < K.w.heap.size → K.free b' → b' ≠ b := fun b' _ hf e => by subst e; exact hf j d hmu
                have hst : Step K (K.bind σ (K.w.setCells b (d + (off + len * i.size)) xv) (fun k => decide (k = j)) b (d + off)) :=
                  Ctx.bind_step hK (by rw [hsz']; exact Nat.le_refl _) (fun b' hb' hf => hother b' (hfree b' hb' hf)) hfree hkeep (out_setCells _ _ _ _)
                have hov2 : VRs K ((cs.drop off).take (len * i.size)) ((List.range (len * i.size)).map fun q => g (off + q)) := by
                  refine ⟨by simp; omega, fun q hq => ?_⟩
                  simp at hq
                  have := hg2 (off + q) (by omega)
                  rw [List.getElem_take, List.getElem_drop, List.getElem?_map, List.getElem?_eq_getElem (by simp; omega), List.getElem_range]; exact this
                have hall := hov2.append hxv
                have hrel := hK.bind hst (x := .cells ((cs.drop off).take (len * i.size) ++ xs)) (by rw [hsz']; exact hblt) (hK.fm _ _ _ hmu) (fun k b' d' hk hD => by
                    have hne : b' ≠ b := fun e => by subst e; have := hK.inj _ _ _ _ _ hk hmu; simp [this] at hD
                    exact ⟨hne, hother b' hne⟩) (by
                  refine ⟨by rw [List.all_append, hoc, hxc]; rfl, fz_setCells (hK.fz hg hmu), fun q => if q < len * i.size then g (off + q) else xv[q - len * i.size]?.getD undef, fun q hq => ⟨?_, ?_⟩, fun q hq => (?_ : VR K _ _).ext hst.ext⟩
                  · simp only [List.length_append, hxl, hol] at hq
                    show (K.w.setCells b (d + (off + len * i.size)) xv).cell? _ = _
                    by_cases hlt : q < len * i.size
                    · dsimp only
                      rw [World.cell?_setCells_out b xv _ K.w _ (by intro _ _; simp; omega), if_pos hlt, Nat.add_assoc]
                      exact hg1 (off + q) (by omega)
                    · dsimp only
                      rw [if_neg hlt]
                      have := World.cell?_setCells_in b xv (d + (off + len * i.size)) K.w (fun r hr => by
                        have := (hrm' (len * i.size + r) (by omega)).1
                        rw [show d + (off + len * i.size) + r = d + off + (len * i.size + r) by omega]; exact this) (q - len * i.size) (by omega)
                      rw [show d + (off + len * i.size) + (q - len * i.size) = d + off + q by omega] at this
                      rw [this, List.getElem?_eq_getElem (by omega)]; rfl
                  · simp only [List.length_append, hxl, hol] at hq
                    show (K.w.setCells b (d + (off + len * i.size)) xv).frozen? _ = _
                    rw [World.frozen?_setCells]
                    exact (hrm' q (by omega)).2
                  · have hq' := hq
                    simp only [List.length_append, hxl, hol] at hq'
                    have := hall.2 q hq
                    by_cases hlt : q < len * i.size
                    · dsimp only
                      rw [if_pos hlt]
                      rw [List.getElem?_append_left (by simpa using hlt), List.getElem?_map, List.getElem?_eq_getElem (by simpa using hlt), List.getElem_range] at this
                      exact this
                    · dsimp only
                      rw [if_neg hlt]
                      rw [List.getElem?_append_right (by simpa using hlt)] at this
                      simpa using this)
                refine ⟨_, .slice (some ⟨b, d + off, none⟩) (len + n) c, ?_, hst, hrel, .sl ⟨by simp, by simp⟩ (fun b1 d1 hm1 => ?_) hc (by simpa [CapS] using hc) (fun b1 d1 hm1 q hq => ?_)⟩
                · rw [inPlace hc]
                  simp only [addr_add, show d + off + len * i.size = d + (off + len * i.size) by omega, hrun, Result.andThen_ok]
                  rfl
                · simp only [Ctx.bind, if_true, Option.some.injEq, Prod.mk.injEq] at hm1; obtain ⟨rfl, rfl⟩ := hm1; rfl
                · simp only [Ctx.bind, if_true, Option.some.injEq, Prod.mk.injEq] at hm1; obtain ⟨rfl, rfl⟩ := hm1
                  exact hkeep _ _ (hrm' q hq)
            · simp at hnew
        · simp at h
  · simp at h

/-- Elements that are there already. -/
theorem append_sound {σ σ' : St} (hK : Rel K σ) {s x v : AV} {vs vx : Value} (hs : VR K s vs) (hx : VR K x vx) {sT xT ty e : TypeId} {i : TypeInfo} {z : List AV}
    (hu : P.underlying sT = some (.slice e)) (hi : P.info? e = some i) (hby : 0 < i.bytes) (hz : zerosOf P e = some z) (hzl : z.length = i.size) {dx : TypeDesc} (hux : P.underlying xT = some dx) (hxi : ∀ k, dx ≠ .int k)
    {n : Nat} {xs : List AV} (hn : lenOf x = some n) (hxs : elems σ i.size n x = some xs) (h : appendTo σ i.size i.bytes n xs s = some (v, σ')) :
    ∃ K' v', (Builtin.append_ #[sT, xT] ty #[vs, vx]).run P K.w = .ok v' K'.w ∧ Step K K' ∧ Rel K' σ' ∧ VR K' v v' := by
  obtain ⟨hxl, hxc, xv, hxv, hxr⟩ := elems_sound (P := P) hK hx hxs
  obtain ⟨i', zv, hi', hzv, hzs, _⟩ := zeros_sound hz K
  rw [hi] at hi'; simp only [Option.some.injEq] at hi'; subst hi'
  have hlen := fun w' => lenOf_sound (P := P) hx hn w'
  refine append_core (P := P) (e := e) hK hs false hby hzl hzs hxl hxc hxv (fun h => by simp at h) (fun hle => ?_) (fun hlt hold hfit hb => ?_) h
  · exact (run_append (P := P) (ty := ty) (old := []) hu hi hzv hux hxi hlen hxr (fun h => by omega) (fun h => by omega) (fun h => by omega)).1 hle
  · exact (run_append (P := P) (ty := ty) (w := K.w) hu hi hzv hux hxi hlen hxr (fun _ => hold) (fun _ => hfit) (fun _ => by simpa using hb)).2 hlt

/-- The built-in append of so many zeros. -/
theorem run_appendZ {sT xT ty e : TypeId} {i : TypeInfo} {z : Value} (hs : P.underlying sT = some (.slice e)) (hi : P.info? e = some i) (hz : i.zero = some z) (hzi : z.cells.size = i.size)
    {k kx : IntKind} (hx : P.underlying xT = some (.int k)) {base : Option Addr} {sLen sCap n : Nat} {old : List Value} {w : World} (hnb : n * i.bytes ≤ 2 ^ 48) (hn48 : n ≤ 2 ^ 48)
    (hold : sCap < sLen + n → ∀ w', w'.heap = w.heap → (Builtin.firstCells i.size sLen (.slice base sLen sCap)).run P w' = .ok old.toArray w')
    (hfit : sCap < sLen + n → Builtin.nextslicecap (sLen + n) sCap * i.bytes ≤ 2 ^ 48) (hby : sCap < sLen + n → ¬ (((sLen + n : Nat) : Int) > IntKind.i64.max)) :
    (sLen + n ≤ sCap → (Builtin.append_ #[sT, xT] ty #[.slice base sLen sCap, .int kx n]).run P w =
      (match base with | some a => ((Go.storeCells (a.add (sLen * i.size)) (Builtin.zeroCells z.cells n).toList).run P w).andThen fun _ w' => .ok (.slice base (sLen + n) sCap) w' | none => .ok (.slice base (sLen + n) sCap) w)) ∧
    (sCap < sLen + n → ∃ (cap : Nat) (arr : Array Value) (w' : World), sLen + n ≤ cap ∧ w'.heap = w.heap.push (.cells arr e (0, 0)) ∧ (w'.os = w.os ∧ w'.output = w.output) ∧
      arr = (old ++ (Builtin.zeroCells z.cells n).toList).toArray ++ Builtin.zeroCells z.cells (cap - (sLen + n)) ∧
      (Builtin.append_ #[sT, xT] ty #[.slice base sLen sCap, .int kx n]).run P w = .ok (.slice (some ⟨w.heap.size, 0, none⟩) (sLen + n) cap) w') := by
  have w1 : IntKind.i64.wrap (n : Int) = n := by simp [IntKind.wrap, IntKind.bits, IntKind.signed]; omega
  have h0 : ¬ ((n : Int) < 0) := by omega
  have hb1 : ¬ (281474976710656 < (n : Int) * (i.bytes : Int)) := by
    have : (n : Int) * (i.bytes : Int) = ((n * i.bytes : Nat) : Int) := by push_cast; rfl
    rw [this]; omega
  have hemp : n * i.size = 0 → Builtin.zeroCells z.cells n = #[] := fun h0 => by
    apply Array.eq_empty_of_size_eq_zero
    rw [size_zeroCells, hzi, h0]
  refine ⟨fun hle => ?_, fun hlt => ?_⟩
  · simp only [Builtin.append_, List.getElem?_toArray, List.getElem?_cons_zero, List.getElem?_cons_succ, Sem.run_bind, run_underlying hs, Result.andThen_ok, sizeOf, typeInfo, hi, Sem.run_pure, run_program, run_underlying hx]
    by_cases hz0 : n * i.size = 0
    · have e1 := hemp hz0
      simp [asInt, asIntOf, w1, h0, hb1, hi, hle, hz0, e1]
      cases base <;> simp
    · simp [asInt, asIntOf, w1, h0, hb1, hi, hle, hz0, zeroValue, typeInfo, hz]
      cases base <;> simp
  · have hn : ¬ (sLen + n ≤ sCap) := by omega
    have hge := grownCap_ge w (sLen + n) sCap e
    refine ⟨grownCap w (sLen + n) sCap e, _, (w.drew).alloc (.cells ((old ++ (Builtin.zeroCells z.cells n).toList).toArray ++ Builtin.zeroCells z.cells (grownCap w (sLen + n) sCap e - (sLen + n))) e), hge, rfl, ⟨rfl, rfl⟩, rfl, ?_⟩
    have hf := hfit hlt
    have hb := hby hlt
    have ho := hold hlt w.drew rfl
    simp only [Builtin.append_, List.getElem?_toArray, List.getElem?_cons_zero, List.getElem?_cons_succ, Sem.run_bind, run_underlying hs, Result.andThen_ok, sizeOf, typeInfo, hi, Sem.run_pure, run_program, run_underlying hx]
    have hb' : ¬ (9223372036854775807 < (sLen : Int) + n) := by
      simpa [IntKind.max, IntKind.signed, IntKind.bits] using hb
    have hf' : ¬ (281474976710656 < Builtin.nextslicecap (sLen + n) sCap * i.bytes) := by omega
    by_cases hz0 : n * i.size = 0
    · have e1 := hemp hz0
      simp [asInt, asIntOf, w1, h0, hb1, hn, Question.forced, hi, hz, hb', hf', zeroValue, typeInfo, newRow, ho, hz0, e1, grownCap]
    · simp [asInt, asIntOf, w1, h0, hb1, hn, Question.forced, hi, hz, hb', hf', zeroValue, typeInfo, newRow, ho, hz0, grownCap]
      rw [show (old ++ (Builtin.zeroCells z.cells n).toList).toArray = old.toArray ++ Builtin.zeroCells z.cells n by simp, Array.append_assoc]

theorem appendZ_sound {σ σ' : St} (hK : Rel K σ) {s x v : AV} {vs vx : Value} (hs : VR K s vs) (hx : VR K x vx) {sT xT ty e : TypeId} {i : TypeInfo} {z : List AV}
    (hu : P.underlying sT = some (.slice e)) (hi : P.info? e = some i) (hby : 0 < i.bytes) (hz : zerosOf P e = some z) (hzl : z.length = i.size) {k : IntKind} (hux : P.underlying xT = some (.int k))
    {n : Nat} (hn : asNat x = some n) (hnb : n * i.bytes ≤ growMax) (hno : s.noIsl = true) (h : appendTo σ i.size i.bytes n (List.replicate n z).flatten s = some (v, σ')) :
    ∃ K' v', (Builtin.append_ #[sT, xT] ty #[vs, vx]).run P K.w = .ok v' K'.w ∧ Step K K' ∧ Rel K' σ' ∧ VR K' v v' := by
  obtain ⟨i', zv, hi', hzv, hzs, hzc⟩ := zeros_sound hz K
  rw [hi] at hi'; simp only [Option.some.injEq] at hi'; subst hi'
  have hzsz : zv.cells.size = i.size := by rw [← hzl]; simpa using hzs.1
  obtain ⟨kx, rfl⟩ := asNat_int hn
  cases hx
  have hg : growMax = 2 ^ 48 := rfl
  have hn48 : n ≤ 2 ^ 48 := by have := Nat.le_mul_of_pos_right n hby; omega
  refine append_core (P := P) (e := e) hK hs true hby hzl hzs (by simp [hzl]) (by
      rw [List.all_eq_true] at hzc ⊢
      intro a ha
      simp only [List.mem_flatten, List.mem_replicate] at ha
      obtain ⟨l, ⟨_, rfl⟩, ha⟩ := ha
      exact hzc a ha) (zeroCells_flat hzs n) (fun _ => ⟨by omega, hno⟩) (fun hle => ?_) (fun hlt hold hfit hb => ?_) h
  · exact (run_appendZ (P := P) (ty := ty) (old := []) hu hi hzv hzsz hux (by omega) hn48 (fun h => by omega) (fun h => by omega) (fun h => by omega)).1 hle
  · exact (run_appendZ (P := P) (ty := ty) (w := K.w) hu hi hzv hzsz hux (by omega) hn48 (fun _ => hold) (fun _ => hfit) (fun _ h => hb ⟨h, .inl rfl⟩)).2 hlt

end
end Go.Vm
