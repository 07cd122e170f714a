/-
  THE GENERIC LAYER 'Vm', part Ma: maps.
-/
import Derived.Test.YtkhalpmmdlppkaaVmL
import Derived.MapKept
namespace Go.Vm

section
variable {P : Program} {K : Ctx}

/-! ### a key is one that can be looked for -/

theorem eqv_self_true {q : EqT} {x : AV} {b : Bool} (h : eqv q x x = some b) (hb : b = true) : eqv q x x = some true := by rw [h, hb]

theorem check_sound (em : Bool) (n : Nat) :
    (∀ (t : TypeId) (q : EqT), eqtOf P n t = some q → ∀ d, n ≤ d → ∀ (x : AV) (vx : Value), VR K x vx → eqv q x x = some true → ∀ w, (Instr.checkKey em d t vx).run P w = .ok () w) ∧
    (∀ (fs : List Field) (l : List (Nat × Nat × EqT)), eqtFields P n fs = some l → ∀ d, n ≤ d → ∀ (xs : List AV) (vxs : List Value), VRs K xs vxs →
      xs.all AV.isCell = true → eqvL l xs xs = some true → ∀ w, (forIn fs PUnit.unit fun (f : Field) (_ : PUnit) => (do
        if f.name ≠ "_" then Instr.checkKey em d f.type (← Go.part f.type vxs.toArray f.offset)
        pure (ForInStep.yield PUnit.unit) : Sem (ForInStep PUnit))).run P w = .ok PUnit.unit w) := by
  induction n with
  | zero =>
    refine ⟨fun t q h => by simp [eqtOf] at h, fun fs l h d hd xs vxs hx _ he w => ?_⟩
    cases fs with
    | nil => simp
    | cons f fs => simp [eqtFields] at h
  | succ n ih =>
    refine ⟨fun t q h d hd x vx hx he w => ?_, fun fs l h d hd xs vxs hx hcx he w => ?_⟩
    · obtain ⟨d, rfl⟩ : ∃ m, d = m + 1 := ⟨d - 1, by omega⟩
      unfold eqtOf at h
      split at h
      · rename_i k hu
        simp only [Option.some.injEq] at h; subst h
        obtain ⟨k, a, c, rfl, _, _⟩ := eqv_int he
        cases hx
        unfold Instr.checkKey; simp [run_underlying hu]
      · rename_i hu
        simp only [Option.some.injEq] at h; subst h
        obtain ⟨a, c, rfl, _, _⟩ := eqv_bool he
        cases hx
        exact MapKept.run_checkKey hu (by simp [MapKept.IsKey]) em d
      · rename_i hu
        simp only [Option.some.injEq] at h; subst h
        obtain ⟨a, c, rfl, _, _⟩ := eqv_str he
        cases hx
        exact MapKept.run_checkKey hu (by simp [MapKept.IsKey]) em d
      · rename_i fs hu
        split at h
        · simp at h
        · simp only [Option.map_eq_some_iff] at h
          obtain ⟨l, hl, rfl⟩ := h
          obtain ⟨xs, ys, rfl, e, he⟩ := eqv_st he
          cases e
          cases hx with
          | agg gx h1 hcx hvx =>
            have := ih.2 fs.toList l hl d (by omega) xs gx.toList ⟨by simpa using h1, fun j hj => by simpa using hvx j hj⟩ hcx he w
            rw [Instr.checkKey]
            simp only [Sem.run_bind, run_underlying hu, Result.andThen_ok]
            rw [← Array.forIn_toList]
            simp at this
            simp [this]
      · simp at h
    · cases fs with
      | nil => simp
      | cons f fs =>
        simp only [eqtFields] at h
        split at h
        · simp at h
        · rename_i hname
          split at h
          · rename_i agg sz q l' h1 h2 h3
            simp only [Option.some.injEq] at h; subst h
            have hag := eqtOf_agg h2 h1
            simp only [eqvL] at he
            rw [hag] at he
            split at he
            · rename_i px py hpx hpy
              obtain ⟨va, hra, hva⟩ := part_agg (P := P) (w := w) hx hcx hpx h1
              rw [hpx] at hpy
              cases hpy
              split at he
              · rename_i heq
                have hr := ih.1 f.type q h2 d (by omega) px va hva heq w
                have := ih.2 fs l' h3 d (by omega) xs vxs hx hcx he w
                simp only [List.forIn_cons, Sem.run_bind, ne_eq, hname, not_false_eq_true, if_true, hra, hr, Result.andThen_ok, Sem.run_pure]
                exact this
              · simp at he
              · simp at he
            · simp at he
          · simp at h

/-! ### the place of a key -/

theorem eqtOf_nonil {n : Nat} {t : TypeId} {q : EqT} (h : eqtOf P n t = some q) : ∀ k, q ≠ .nil k := by
  cases n with
  | zero => simp [eqtOf] at h
  | succ n =>
    unfold eqtOf at h
    intro k
    split at h
    · simp only [Option.some.injEq] at h; subst h; simp
    · simp only [Option.some.injEq] at h; subst h; simp
    · simp only [Option.some.injEq] at h; subst h; simp
    · split at h
      · simp at h
      · simp only [Option.map_eq_some_iff] at h
        obtain ⟨l, _, rfl⟩ := h; simp
    · simp at h

theorem sameNow_eqv {d : TypeDesc} {q : EqT} (hnn : ∀ k, q ≠ .nil k) {x y : AV} {vx vy : Value} (hx : VR K x vx) (hy : VR K y vy) {b c : Bool} (h : eqv q x y = some b) (hn : Instr.sameNow d vx vy = some c) : c = b := by
  cases q with
  | int =>
    obtain ⟨k, a, e, rfl, rfl, rfl⟩ := eqv_int h
    cases hx; cases hy
    cases d <;> simp [Instr.sameNow] at hn
    rw [← hn, Bool.eq_iff_iff]; simp
  | bool =>
    obtain ⟨a, e, rfl, rfl, rfl⟩ := eqv_bool h
    cases hx; cases hy
    cases d <;> simp [Instr.sameNow] at hn
    exact hn.symm
  | str =>
    obtain ⟨a, e, rfl, rfl, rfl⟩ := eqv_str h
    cases hx; cases hy
    cases d <;> simp [Instr.sameNow] at hn
    rw [← hn, Bool.eq_iff_iff, MapKept.bytes_beq]
    simp
  | nil k => exact absurd rfl (hnn k)
  | st fs =>
    obtain ⟨a, e, rfl, rfl, _⟩ := eqv_st h
    cases hx; cases hy
    cases d <;> simp [Instr.sameNow] at hn

/-- What the search comes to. -/
def hitAt (el : List MapEntry) (i : Nat) : Option Nat → Option (Nat × Value)
  | some j => some (j, ((el[j - i]?).map MapEntry.val).getD undef)
  | none => none

theorem findKey_in {q : EqT} {k : AV} : ∀ (ks : List AV) (i j : Nat), findKey q k ks i = some (some j) → i ≤ j ∧ j < i + ks.length ∧ ∃ x, ks[j - i]? = some x ∧ eqv q k x = some true
  | [], i, j, h => by simp [findKey] at h
  | x :: ks, i, j, h => by
    unfold findKey at h
    split at h
    · rename_i he
      simp only [Option.some.injEq] at h; subst h
      exact ⟨Nat.le_refl _, by simp, x, by simp, he⟩
    · obtain ⟨h1, h2, y, h3, h4⟩ := findKey_in ks (i + 1) j h
      refine ⟨by omega, by simp; omega, y, ?_, h4⟩
      rw [show j - i = (j - (i + 1)) + 1 by omega]; simpa using h3
    · simp at h

theorem hitAt_cons {e : MapEntry} {el : List MapEntry} {i : Nat} {r : Option Nat} (h : ∀ j, r = some j → i + 1 ≤ j) : hitAt (e :: el) i r = hitAt el (i + 1) r := by
  cases r with
  | none => rfl
  | some j =>
    have := h j rfl
    simp only [hitAt]
    rw [show j - i = (j - (i + 1)) + 1 by omega]; simp

theorem asking_sound {kt : TypeId} {q : EqT} (hq : eqtOf P 9 kt = some q) {k : AV} {vk : Value} (hk : VR K k vk) : ∀ (el : List MapEntry) (ks : List AV) (i : Nat) (r : Option Nat), VRs K ks (el.map MapEntry.key) → findKey q k ks i = some r →
    ∀ w, (Instr.findAsking kt vk el i).run P w = .ok (hitAt el i r) w
  | [], ks, i, r, hv, h, w => by
    obtain rfl : ks = [] := List.eq_nil_of_length_eq_zero (by simpa using hv.1.symm)
    simp only [findKey, Option.some.injEq] at h; subst h
    simp [Instr.findAsking, hitAt]
  | e :: el, [], i, r, hv, h, w => by simp [VRs] at hv
  | e :: el, x :: ks, i, r, hv, h, w => by
    have hx : VR K x e.key := hv.2 0 (Nat.zero_lt_succ _)
    have hr : VRs K ks (el.map MapEntry.key) := by simpa using hv.drop 1
    unfold findKey at h
    split at h
    · rename_i he
      simp only [Option.some.injEq] at h; subst h
      have : (Op.equal kt vk e.key).run P w = .ok true w := (eqt_sound (K := K) 9).1 kt q hq 10000 (by omega) k x vk e.key true hk hx he w
      simp [Instr.findAsking, this, hitAt]
    · rename_i he
      have : (Op.equal kt vk e.key).run P w = .ok false w := (eqt_sound (K := K) 9).1 kt q hq 10000 (by omega) k x vk e.key false hk hx he w
      have ih := asking_sound hq hk el ks (i + 1) r hr h w
      rw [hitAt_cons (fun j hj => by subst hj; exact (findKey_in ks (i + 1) j h).1)]
      simp [Instr.findAsking, this, ih]
    · simp at h

theorem now_sound {d : TypeDesc} {q : EqT} (hnn : ∀ k, q ≠ .nil k) {k : AV} {vk : Value} (hk : VR K k vk) : ∀ (el : List MapEntry) (ks : List AV) (i : Nat) (r : Option Nat), VRs K ks (el.map MapEntry.key) → findKey q k ks i = some r →
    ∀ r', Instr.findNow d vk el i = some r' → r' = hitAt el i r
  | [], ks, i, r, hv, h, r', h' => by
    obtain rfl : ks = [] := List.eq_nil_of_length_eq_zero (by simpa using hv.1.symm)
    simp only [findKey, Option.some.injEq] at h; subst h
    simp only [Instr.findNow, Option.some.injEq] at h'
    exact h'.symm
  | e :: el, [], i, r, hv, h, r', h' => by simp [VRs] at hv
  | e :: el, x :: ks, i, r, hv, h, r', h' => by
    have hx : VR K x e.key := hv.2 0 (Nat.zero_lt_succ _)
    have hr : VRs K ks (el.map MapEntry.key) := by simpa using hv.drop 1
    unfold Instr.findNow at h'
    unfold findKey at h
    split at h
    · rename_i he
      simp only [Option.some.injEq] at h; subst h
      split at h'
      · simp only [Option.some.injEq] at h'; subst h'; simp [hitAt]
      · rename_i hs
        exact absurd (sameNow_eqv hnn hk hx he hs) (by simp)
      · simp at h'
    · rename_i he
      split at h'
      · rename_i hs
        exact absurd (sameNow_eqv hnn hk hx he hs) (by simp)
      · rw [hitAt_cons (fun j hj => by subst hj; exact (findKey_in ks (i + 1) j h).1)]
        exact now_sound hnn hk el ks (i + 1) r hr h r' h'
      · simp at h'
    · simp at h

theorem findIn_some {q : EqT} {k : AV} {ks : List AV} {r : Option Nat} (h : findIn q k ks = some r) : eqv q k k = some true ∧ findKey q k ks 0 = some r := by
  unfold findIn at h
  split at h
  · rename_i he; exact ⟨he, h⟩
  · simp at h

theorem find_sound {kt : TypeId} {q : EqT} (hq : eqtOf P 9 kt = some q) {k : AV} {vk : Value} (hk : VR K k vk) {el : List MapEntry} {ks : List AV} {r : Option Nat} (hv : VRs K ks (el.map MapEntry.key)) (h : findKey q k ks 0 = some r) (w : World) :
    (Instr.findKey kt vk el).run P w = .ok (hitAt el 0 r) w := by
  obtain ⟨d, hd⟩ : ∃ d, P.underlying kt = some d := by
    unfold eqtOf at hq
    cases hu : P.underlying kt with
    | none => simp [hu] at hq
    | some d => exact ⟨d, rfl⟩
  cases hn : Instr.findNow d vk el 0 with
  | some r' =>
    have := now_sound (eqtOf_nonil hq) hk el ks 0 r hv h r' hn
    subst this
    exact MapKept.run_findKey hd hn
  | none =>
    simp only [Instr.findKey, Sem.run_bind, run_underlying hd, Result.andThen_ok, hn]
    exact asking_sound hq hk el ks 0 r hv h w

/-! ### entries -/

structure Ents (K : Ctx) (es : Array MapEntry) (ks vs : List AV) : Prop where
  ks : VRs K ks (es.toList.map MapEntry.key)
  vs : VRs K vs (es.toList.map MapEntry.val)

theorem Ents.of {es : Array MapEntry} {ks vs : List AV} (h1 : es.size = ks.length) (h2 : es.size = vs.length) (h3 : ∀ j (h : j < ks.length), VR K ks[j] (es[j]?.map MapEntry.key |>.getD undef))
    (h4 : ∀ j (h : j < vs.length), VR K vs[j] (es[j]?.map MapEntry.val |>.getD undef)) : Ents K es ks vs :=
  ⟨⟨by simpa using h1, fun j hj => by simpa using h3 j hj⟩, ⟨by simpa using h2, fun j hj => by simpa using h4 j hj⟩⟩

theorem Ents.blk {es : Array MapEntry} {ks vs : List AV} (h : Ents K es ks vs) {b d : Nat} {clk : Nat} (hb : K.w.heap[b]? = some (.map es clk)) : BlkR K b d (.map ks vs) :=
  ⟨es, clk, hb, by simpa using h.ks.1, by simpa using h.vs.1, fun j hj => by simpa using h.ks.2 j hj, fun j hj => by simpa using h.vs.2 j hj⟩
theorem Ents.ext {K' : Ctx} (e : Ext K K') {es : Array MapEntry} {ks vs : List AV} (h : Ents K es ks vs) : Ents K' es ks vs := ⟨h.ks.ext e, h.vs.ext e⟩

theorem Ents.val {es : Array MapEntry} {ks vs : List AV} (h : Ents K es ks vs) {j : Nat} {v : AV} (hj : vs[j]? = some v) : ∃ e, es[j]? = some e ∧ VR K v e.val := by
  have hlt : j < vs.length := (List.getElem?_eq_some_iff.1 hj).1
  have h1 := h.vs.2 j hlt
  have hl : j < es.size := by have := h.vs.1; simp at this; omega
  have h2 : es[j]? = some es[j] := Array.getElem?_eq_getElem hl
  refine ⟨es[j], h2, ?_⟩
  have h3 : vs[j] = v := by rw [List.getElem?_eq_getElem hlt] at hj; exact Option.some.inj hj
  rw [h3] at h1
  simpa [h2] using h1

theorem mapOf_ents {σ : St} (hK : Rel K σ) {m : AV} {vm : Value} (hm : VR K m vm) {ks vs : List AV} (h : mapOf σ m = some (ks, vs)) :
    (vm = .map none ∧ ks = [] ∧ vs = []) ∨ ∃ b es clk, vm = .map (some b) ∧ K.w.heap[b]? = some (.map es clk) ∧ Ents K es ks vs := by
  unfold mapOf at h
  split at h
  · simp only [Option.some.injEq, Prod.mk.injEq] at h
    obtain ⟨rfl, rfl⟩ := h
    cases hm
    exact .inl ⟨rfl, rfl, rfl⟩
  · rename_i i
    split at h
    · rename_i ks' vs' hh
      simp only [Option.some.injEq, Prod.mk.injEq] at h
      obtain ⟨rfl, rfl⟩ := h
      cases hm with
      | map hb hr =>
        obtain ⟨b, d, h1, es, clk, h2, h3, h4, h5, h6⟩ := hK.blk _ _ hh
        have := hr b d h1
        subst this
        exact .inr ⟨_, es, clk, rfl, h2, Ents.of h3 h4 h5 h6⟩
    · simp at h
  · simp only [Option.some.injEq, Prod.mk.injEq] at h
    obtain ⟨rfl, rfl⟩ := h
    cases hm with
    | imap hnr hlt hfree hfm hr hk hvl hks hvs => exact .inr ⟨_, _, _, rfl, hr, Ents.of hk hvl hks hvs⟩
  · simp at h

/-! ### the operations -/

theorem makeMap_sound {σ : St} (hK : Rel K σ) (t : TypeId) :
    ∃ K' v', (Instr.makeMap t none).run P K.w = .ok v' K'.w ∧ Step K K' ∧ Rel K' (σ.alloc (.map [] [])).2 ∧ VR K' (.map (σ.alloc (.map [] [])).1) v' := by
  obtain ⟨K', hw, h1, h2, h3, h4⟩ := push_sound hK (w' := K.w.alloc (.map #[] 0)) (ob := .map #[] 0) (fun _ => false) rfl ⟨rfl, rfl⟩ (x := .map [] []) (fun K' _ hw => by
    refine ⟨#[], 0, ?_, rfl, rfl, fun j hj => by simp at hj, fun j hj => by simp at hj⟩
    rw [hw]; exact (MapKept.heap_alloc K.w _).1)
  refine ⟨K', .map (some K.w.heap.size), ?_, h1, ?_, ?_⟩
  · rw [hw]; simp [Instr.makeMap]
  · rw [St.alloc_eq]; exact h2
  · refine .map h4 fun b d hm => ?_
    rw [St.alloc_eq] at hm
    rw [h3] at hm
    simp only [Option.some.injEq, Prod.mk.injEq] at hm
    exact hm.1

/-- What a look for a key comes to. -/
def lookR (ok : Bool) (z : AV) (vs : List AV) : Option Nat → Option AV
  | some j => (vs[j]?).map fun v => if ok then .tup [v, .bool true] else v
  | none => some (if ok then .tup [z, .bool false] else z)

theorem lookup_sound {σ : St} (hK : Rel K σ) {m k : AV} {vm vk : Value} (hm : VR K m vm) (hk : VR K k vk) {t kt e : TypeId} (hu : P.underlying t = some (.map kt e)) {q : EqT} (hq : eqtOf P 9 kt = some q) {z : AV} (hz : zeroOf P e = some z) {ok : Bool}
    {ks vs : List AV} (hmo : mapOf σ m = some (ks, vs)) {r : Option Nat} (hf : findIn q k ks = some r) {v : AV} (hr : lookR ok z vs r = some v) :
    ∃ v', (Instr.lookup t vm vk ok).run P K.w = .ok v' K.w ∧ VR K v v' := by
  obtain ⟨hkk, hfk⟩ := findIn_some hf
  obtain ⟨zv, hzv, hzr⟩ := zero_sound (P := P) hz K
  have hck := fun em w => (check_sound (P := P) (K := K) em 9).1 kt q hq 10000 (by omega) k vk hk hkk w
  have tup2 : ∀ {x : AV} {vx : Value} (b : Bool), VR K x vx → VR K (.tup [x, .bool b]) (.tuple #[vx, .bool b]) := fun b hx => .tup _ rfl (fun j hj => by
    match j, hj with
    | 0, _ => exact hx
    | 1, _ => exact .bool b)
  have main : ∀ es : Array MapEntry, Ents K es ks vs → ∀ ec : (Instr.findKey kt vk es.toList).run P K.w = .ok (hitAt es.toList 0 r) K.w,
      ∃ v', ((do
        let (v, b) ← match ← Instr.findKey kt vk es.toList with
          | some (_, v) => pure (v, true)
          | none => pure (← zeroValue e, false)
        pure (if ok then .tuple #[v, .bool b] else v) : Sem Value).run P K.w = .ok v' K.w) ∧ VR K v v' := by
    intro es hen ec
    cases r with
    | none =>
      simp only [lookR, Option.some.injEq] at hr; subst hr
      refine ⟨_, by simp only [Sem.run_bind, ec, Result.andThen_ok, hitAt, hzr, Sem.run_pure]; rfl, ?_⟩
      cases ok
      · exact hzv
      · exact tup2 false hzv
    | some j =>
      simp only [lookR, Option.map_eq_some_iff] at hr
      obtain ⟨x, hx, rfl⟩ := hr
      obtain ⟨en, h1, h2⟩ := hen.val hx
      have h1' : es.toList[j - 0]? = some en := by simpa using h1
      refine ⟨_, by simp only [Sem.run_bind, ec, Result.andThen_ok, hitAt, h1', Option.map_some, Option.getD_some, Sem.run_pure]; rfl, ?_⟩
      cases ok
      · exact h2
      · exact tup2 true h2
  rcases mapOf_ents hK hm hmo with ⟨rfl, rfl, rfl⟩ | ⟨b, es, clk, rfl, hb, hen⟩
  · obtain ⟨v', h1, h2⟩ := main #[] ⟨VRs.nil K, VRs.nil K⟩ (find_sound hq hk (VRs.nil K) hfk K.w)
    refine ⟨v', ?_, h2⟩
    simp only [Instr.lookup, Sem.run_bind, run_underlying hu, Result.andThen_ok, Sem.run_pure, hck] at h1 ⊢
    exact h1
  · obtain ⟨v', h1, h2⟩ := main es hen (find_sound hq hk hen.ks hfk K.w)
    refine ⟨v', ?_, h2⟩
    simp only [Instr.lookup, Sem.run_bind, run_underlying hu, Result.andThen_ok, Sem.run_pure, hck, MapKept.run_getObj_map hb] at h1 ⊢
    exact h1

/-- A map, written. -/
theorem setMap_sound {σ : St} (hK : Rel K σ) {i : Id} {ks vs : List AV} (hh : σ.heap i = some (.map ks vs)) {b d : Nat} (hm : K.mu i = some (b, d)) {es : Array MapEntry} {clk : Nat} (hb : K.w.heap[b]? = some (.map es clk))
    {es' : Array MapEntry} {clk' : Nat} {ks' vs' : List AV} (hen : Ents K es' ks' vs') :
    ∃ K', K'.w = { K.w with heap := K.w.heap.setIfInBounds b (.map es' clk') } ∧ Step K K' ∧ Rel K' (σ.set i (some (.map ks' vs'))) := by
  obtain ⟨g1, g2⟩ := MapKept.heap_set (o' := .map es' clk') hb
  have hroom : ∀ b' o', Room K.w b' o' → Room { K.w with heap := K.w.heap.setIfInBounds b (.map es' clk') } b' o' := fun b' o' hr => by
    have hne : b' ≠ b := by
      rintro rfl
      have := hr.1
      simp [World.cell?, hb] at this
    exact ⟨by rw [cell?_congr (g2 b' hne)]; exact hr.1, by rw [frozen?_congr (g2 b' hne)]; exact hr.2⟩
  have hext : Ext K { K with w := { K.w with heap := K.w.heap.setIfInBounds b (.map es' clk') } } :=
    ⟨by simp, fun b' _ hf => g2 b' (by rintro rfl; exact hf i d hm), fun _ _ h => h, fun _ _ _ h => h, fun _ h => h, fun _ _ _ h => h, hroom, ⟨rfl, rfl⟩, rfl⟩
  refine ⟨_, rfl, ⟨hext, fun _ => Iff.rfl⟩, hK.bd, hK.inj, fun j b' d' hj => by simpa using hK.lt j b' d' hj, hK.mubd, hK.fm, fun b' hb' => by simpa using hK.fmlt b' hb', fun j x hx => ?_⟩
  by_cases hj : j = i
  · subst hj
    simp only [St.set, if_true, Option.some.injEq] at hx
    subst hx
    exact ⟨b, d, hm, (hen.ext hext).blk g1⟩
  · simp only [St.set, hj, if_false] at hx
    obtain ⟨b', d', h1, h2⟩ := hK.blk j x hx
    refine ⟨b', d', h1, h2.ext hext (g2 b' ?_)⟩
    rintro rfl
    exact hj (hK.inj _ _ _ _ _ h1 hm)

mutual
theorem sameKey_vr : ∀ {x y : AV}, sameKey x y = true → ∀ {vx vy : Value}, VR K x vx → VR K y vy → vx = vy
  | .int k a, .int k' b, h, vx, vy, hx, hy => by
    simp only [sameKey, Bool.and_eq_true, decide_eq_true_eq] at h
    obtain ⟨rfl, rfl⟩ := h
    cases hx; cases hy; rfl
  | .bool a, .bool b, h, vx, vy, hx, hy => by
    simp only [sameKey, beq_iff_eq] at h; subst h
    cases hx; cases hy; rfl
  | .str a, .str b, h, vx, vy, hx, hy => by
    simp only [sameKey, decide_eq_true_eq] at h; subst h
    cases hx; cases hy; rfl
  | .agg as, .agg bs, h, vx, vy, hx, hy => by
    simp only [sameKey] at h
    cases hx with
    | agg g h1 _ hv =>
      cases hy with
      | agg g' h1' _ hv' =>
        have := sameKeys_vr h (vs := g.toList) (ws := g'.toList) ⟨by simpa using h1, fun j hj => by simpa using hv j hj⟩ ⟨by simpa using h1', fun j hj => by simpa using hv' j hj⟩
        rw [Array.ext' this]
  | .int .., .bool _, h, _, _, _, _ | .int .., .str _, h, _, _, _, _ | .int .., .agg _, h, _, _, _, _ | .bool _, .int .., h, _, _, _, _ | .bool _, .str _, h, _, _, _, _ | .bool _, .agg _, h, _, _, _, _
  | .str _, .int .., h, _, _, _, _ | .str _, .bool _, h, _, _, _, _ | .str _, .agg _, h, _, _, _, _ | .agg _, .int .., h, _, _, _, _ | .agg _, .bool _, h, _, _, _, _ | .agg _, .str _, h, _, _, _, _ => by simp [sameKey] at h
theorem sameKeys_vr : ∀ {xs ys : List AV}, sameKey.sameKeys xs ys = true → ∀ {vs ws : List Value}, VRs K xs vs → VRs K ys ws → vs = ws
  | [], [], _, vs, ws, h1, h2 => by
    obtain rfl : vs = [] := List.eq_nil_of_length_eq_zero (by simpa using h1.1)
    exact (List.eq_nil_of_length_eq_zero (by simpa using h2.1)).symm
  | x :: xs, y :: ys, h, [], ws, h1, h2 => by simp [VRs] at h1
  | x :: xs, y :: ys, h, v :: vs, [], h1, h2 => by simp [VRs] at h2
  | x :: xs, y :: ys, h, v :: vs, w :: ws, h1, h2 => by
    simp only [sameKey.sameKeys, Bool.and_eq_true] at h
    have e1 := sameKey_vr h.1 (vx := v) (vy := w) (h1.2 0 (Nat.zero_lt_succ _)) (h2.2 0 (Nat.zero_lt_succ _))
    have e2 := sameKeys_vr h.2 (vs := vs) (ws := ws) (by simpa using h1.drop 1) (by simpa using h2.drop 1)
    rw [e1, e2]
end

mutual
theorem sameKey_bits : ∀ {x y : AV}, sameKey x y = true → ∀ {vx : Value}, VR K x vx → ∀ n, 2 ≤ n → Instr.sameBits n vx vx = true
  | .int k a, .int k' b, _, vx, hx, n, _ => by cases hx; simp [Instr.sameBits]
  | .bool a, .bool b, _, vx, hx, n, _ => by cases hx; simp [Instr.sameBits]
  | .str a, .str b, _, vx, hx, n, _ => by cases hx; simp [Instr.sameBits, MapKept.bytes_beq]
  | .agg as, .agg bs, h, vx, hx, n, hn => by
    simp only [sameKey] at h
    obtain ⟨n, rfl⟩ : ∃ m, n = m + 1 := ⟨n - 1, by omega⟩
    cases hx with
    | agg g h1 hc hv =>
      have := sameKeys_bits h (vs := g.toList) hc ⟨by simpa using h1, fun j hj => by simpa using hv j hj⟩ n (by omega)
      simp only [Instr.sameBits, beq_self_eq_true, Bool.true_and]
      exact this
  | .int .., .bool _, h, _, _, _, _ | .int .., .str _, h, _, _, _, _ | .int .., .agg _, h, _, _, _, _ | .bool _, .int .., h, _, _, _, _ | .bool _, .str _, h, _, _, _, _ | .bool _, .agg _, h, _, _, _, _
  | .str _, .int .., h, _, _, _, _ | .str _, .bool _, h, _, _, _, _ | .str _, .agg _, h, _, _, _, _ | .agg _, .int .., h, _, _, _, _ | .agg _, .bool _, h, _, _, _, _ | .agg _, .str _, h, _, _, _, _ => by simp [sameKey] at h
theorem sameKeys_bits : ∀ {xs ys : List AV}, sameKey.sameKeys xs ys = true → ∀ {vs : List Value}, xs.all AV.isCell = true → VRs K xs vs → ∀ n, 1 ≤ n → (vs.zip vs).all (fun (x, y) => Instr.sameBits n x y) = true
  | [], _, _, vs, _, h1, n, _ => by
    obtain rfl : vs = [] := List.eq_nil_of_length_eq_zero (by simpa using h1.1)
    rfl
  | x :: xs, y :: ys, h, [], _, h1, n, _ => by simp [VRs] at h1
  | x :: xs, [], h, vs, _, h1, n, _ => by simp [sameKey.sameKeys] at h
  | x :: xs, y :: ys, h, v :: vs, hc, h1, n, hn => by
    simp only [sameKey.sameKeys, Bool.and_eq_true] at h
    simp only [List.all_cons, Bool.and_eq_true] at hc
    have hv : VR K x v := h1.2 0 (Nat.zero_lt_succ _)
    have e1 : Instr.sameBits n v v = true := by
      cases x <;> first | (cases hv; simp [Instr.sameBits, MapKept.bytes_beq]; done) | (cases y <;> simp [sameKey, AV.isCell] at h hc; done)
    have e2 := sameKeys_bits h.2 (vs := vs) hc.2 (by simpa using h1.drop 1) n hn
    simp only [List.zip_cons_cons, List.all_cons, e1, e2, Bool.and_self]
end

theorem stays_sound {x k : AV} (h : sameKey x k = true) {vx vk : Value} (hx : VR K x vx) (hk : VR K k vk) (w : World) : (Instr.keyThatStays vx vk).run P w = .ok vk w := by
  have := sameKey_vr h hx hk
  subst this
  simp [Instr.keyThatStays, sameKey_bits h hx 10000 (by omega)]

theorem VRs.set {xs : List AV} {vs : List Value} (h : VRs K xs vs) {x : AV} {v : Value} (hx : VR K x v) (j : Nat) : VRs K (xs.set j x) (vs.set j v) := by
  refine ⟨by simpa using h.1, fun i hi => ?_⟩
  have hi' : i < xs.length := by simpa using hi
  have hl := h.1
  by_cases e : j = i
  · subst e
    rw [List.getElem_set_self, List.getElem?_set_self (by omega)]; exact hx
  · rw [List.getElem_set_ne e, List.getElem?_set_ne e]; exact h.2 i hi'

theorem VRs.eraseIdx : ∀ {xs : List AV} {vs : List Value} (_ : VRs K xs vs) (j : Nat), VRs K (xs.eraseIdx j) (vs.eraseIdx j)
  | [], vs, h, j => by
    obtain rfl : vs = [] := List.eq_nil_of_length_eq_zero (by simpa using h.1)
    exact VRs.nil K
  | x :: xs, [], h, j => by simp [VRs] at h
  | x :: xs, v :: vs, h, 0 => by simpa using h.drop 1
  | x :: xs, v :: vs, h, j + 1 => VRs.cons (h.2 0 (Nat.zero_lt_succ _)) (VRs.eraseIdx (by simpa using h.drop 1) j)

theorem modify_key (es : List MapEntry) (k v : Value) : ∀ (j : Nat), (es.modify j fun e => { e with key := k, val := v }).map MapEntry.key = (es.map MapEntry.key).set j k := by
  induction es with
  | nil => intro j; simp
  | cons e es ih => intro j; cases j <;> simp [ih]
theorem modify_val (es : List MapEntry) (k v : Value) : ∀ (j : Nat), (es.modify j fun e => { e with key := k, val := v }).map MapEntry.val = (es.map MapEntry.val).set j v := by
  induction es with
  | nil => intro j; simp
  | cons e es ih => intro j; cases j <;> simp [ih]

theorem map_erase {α β : Type} (f : α → β) : ∀ (l : List α) (j : Nat), (l.eraseIdx j).map f = (l.map f).eraseIdx j
  | [], j => by simp
  | a :: l, 0 => by simp
  | a :: l, j + 1 => by simp [map_erase f l j]
theorem set_same {α : Type} : ∀ {l : List α} {j : Nat} {x : α}, l[j]? = some x → l.set j x = l
  | [], j, x, h => by simp at h
  | a :: l, 0, x, h => by simp at h; simp [h]
  | a :: l, j + 1, x, h => by simp at h; simp [set_same h]

theorem mapUpd_sound {E : CallH} {ρ : Env} {σ σ' : St} (hK : Rel K σ) {m k x : Arg} {vm vk vx : Value} (hm : VR K (m.get ρ) vm) (hk : VR K (k.get ρ) vk) (hx : VR K (x.get ρ) vx) {t kt e : TypeId} (hu : P.underlying t = some (.map kt e)) {q : EqT}
    (hq : eqtOf P 9 kt = some q) {v : AV} (h : (Ins.mapUpd q m k x).ev E ρ σ = some (v, σ')) :
    ∃ K', (Instr.mapUpdate t vm vk vx).run P K.w = .ok () K'.w ∧ Step K K' ∧ Rel K' σ' ∧ v = .tup [] := by
  simp only [Ins.ev] at h
  split at h <;> try simp only [reduceCtorEq] at h
  rename_i i hmi
  split at h <;> try simp only [reduceCtorEq] at h
  rename_i ks vs hh
  simp only [Option.bind_eq_some_iff] at h
  obtain ⟨r, hf, h⟩ := h
  obtain ⟨hkk, hfk⟩ := findIn_some hf
  rw [hmi] at hm
  cases hm with
  | map hb hr =>
    obtain ⟨b, d, h1, es, clk, h2, h3, h4, h5, h6⟩ := hK.blk _ _ hh
    have := hr b d h1
    subst this
    have hen := Ents.of h3 h4 h5 h6
    have ec := find_sound (P := P) hq hk hen.ks hfk K.w
    have hck := (check_sound (P := P) (K := K) false 9).1 kt q hq 10000 (by omega) _ vk hk hkk K.w
    cases r with
    | none =>
      simp only [Option.some.injEq, Prod.mk.injEq] at h
      obtain ⟨rfl, rfl⟩ := h
      obtain ⟨K', e1, e2, e3⟩ := setMap_sound hK hh h1 h2 (es' := es.push { key := vk, val := vx, born := clk }) (clk' := clk + 1) (ks' := ks ++ [k.get ρ]) (vs' := vs ++ [x.get ρ])
        ⟨by simpa using hen.ks.append (VRs.cons hk (VRs.nil K)), by simpa using hen.vs.append (VRs.cons hx (VRs.nil K))⟩
      refine ⟨K', ?_, e2, e3, rfl⟩
      simp only [Instr.mapUpdate, Sem.run_bind, run_underlying hu, Result.andThen_ok, MapKept.run_getObj_map h2, hck, ec, hitAt, MapKept.run_setObj_map _ h2, e1]
    | some j =>
      simp only at h
      split at h <;> try simp only [Option.some.injEq, Prod.mk.injEq, reduceCtorEq] at h
      rename_i hsk
      obtain ⟨rfl, rfl⟩ := h
      obtain ⟨_, hj2, y, hj3, _⟩ := findKey_in _ _ _ hfk
      have hj : j < ks.length := by omega
      have hje : j < es.size := by omega
      rw [List.getD_eq_getElem?_getD, List.getElem?_eq_getElem hj, Option.getD_some] at hsk
      have hkj : VR K ks[j] es[j].key := by
        have := h5 j hj
        simpa [hje] using this
      have hst := fun w => stays_sound (P := P) hsk hkj hk w
      have hkv := sameKey_vr hsk hkj hk
      have hks : VRs K ks ((es.modify j fun e => { e with key := vk, val := vx }).toList.map MapEntry.key) := by
        rw [Array.toList_modify, modify_key, set_same]
        · exact hen.ks
        · simp [hje, hkv]
      obtain ⟨K', e1, e2, e3⟩ := setMap_sound hK hh h1 h2 (es' := es.modify j fun e => { e with key := vk, val := vx }) (clk' := clk) (ks' := ks) (vs' := vs.set j (x.get ρ))
        ⟨hks, by rw [Array.toList_modify, modify_val]; exact hen.vs.set hx j⟩
      refine ⟨K', ?_, e2, e3, rfl⟩
      have hge : es[j]? = some es[j] := Array.getElem?_eq_getElem hje
      simp only [Instr.mapUpdate, Sem.run_bind, run_underlying hu, Result.andThen_ok, MapKept.run_getObj_map h2, hck, ec, hitAt, hge, Option.map_some, Option.getD_some, hst, MapKept.run_setObj_map _ h2, e1]

theorem delete_sound {E : CallH} {ρ : Env} {σ σ' : St} (hK : Rel K σ) {m k : Arg} {vm vk : Value} (hm : VR K (m.get ρ) vm) (hk : VR K (k.get ρ) vk) {t u ty kt e : TypeId} (hu : P.underlying t = some (.map kt e)) {q : EqT}
    (hq : eqtOf P 9 kt = some q) {v : AV} (h : (Ins.delete q m k).ev E ρ σ = some (v, σ')) :
    ∃ K', (Builtin.delete_ #[t, u] ty #[vm, vk]).run P K.w = .ok (.tuple #[]) K'.w ∧ Step K K' ∧ Rel K' σ' ∧ v = .tup [] := by
  simp only [Ins.ev] at h
  split at h <;> try simp only [reduceCtorEq] at h
  rename_i i hmi
  split at h <;> try simp only [reduceCtorEq] at h
  rename_i ks vs hh
  simp only [Option.bind_eq_some_iff] at h
  obtain ⟨r, hf, h⟩ := h
  obtain ⟨hkk, hfk⟩ := findIn_some hf
  rw [hmi] at hm
  cases hm with
  | map hb hr =>
    obtain ⟨b, d, h1, es, clk, h2, h3, h4, h5, h6⟩ := hK.blk _ _ hh
    have := hr b d h1
    subst this
    have hen := Ents.of h3 h4 h5 h6
    have ec := find_sound (P := P) hq hk hen.ks hfk K.w
    have hck := fun em => (check_sound (P := P) (K := K) em 9).1 kt q hq 10000 (by omega) _ vk hk hkk K.w
    have hset : σ.set i (some (.map ks vs)) = σ := by
      cases σ
      simp only [St.set, St.mk.injEq, and_true]
      funext j
      by_cases e : j = i
      · subst e; rw [if_pos rfl]; exact hh.symm
      · rw [if_neg e]
    cases r with
    | none =>
      simp only [Option.some.injEq, Prod.mk.injEq] at h
      obtain ⟨rfl, rfl⟩ := h
      obtain ⟨K', e1, e2, e3⟩ := setMap_sound hK hh h1 h2 (es' := es) (clk' := clk) hen
      rw [hset] at e3
      refine ⟨K', ?_, e2, e3, rfl⟩
      simp [Builtin.delete_, run_underlying hu, MapKept.run_getObj_map h2, hck, ec, hitAt, MapKept.run_setObj_map _ h2, e1]
    | some j =>
      simp only [Option.some.injEq, Prod.mk.injEq] at h
      obtain ⟨rfl, rfl⟩ := h
      obtain ⟨_, hj2, y, hj3, _⟩ := findKey_in _ _ _ hfk
      have hje : j < es.size := by omega
      obtain ⟨K', e1, e2, e3⟩ := setMap_sound hK hh h1 h2 (es' := es.eraseIdxIfInBounds j) (clk' := clk) (ks' := ks.eraseIdx j) (vs' := vs.eraseIdx j)
        ⟨by
          have := hen.ks.eraseIdx j
          rw [← map_erase] at this
          simpa [Array.eraseIdxIfInBounds, hje] using this, by
          have := hen.vs.eraseIdx j
          rw [← map_erase] at this
          simpa [Array.eraseIdxIfInBounds, hje] using this⟩
      refine ⟨K', ?_, e2, e3, rfl⟩
      simp [Builtin.delete_, run_underlying hu, MapKept.run_getObj_map h2, hck, ec, hitAt, MapKept.run_setObj_map _ h2, e1]
end
end Go.Vm
