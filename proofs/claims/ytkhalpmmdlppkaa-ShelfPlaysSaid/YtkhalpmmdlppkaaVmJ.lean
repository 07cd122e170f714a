/-
  THE GENERIC LAYER 'Vm', part J: composites, makes, addresses, the rest.
-/
import Derived.Test.YtkhalpmmdlppkaaVmI
namespace Go.Vm
section
variable {P : Program} {K : Ctx}

theorem mapM_places {fields : Array Field} {pl : List (Nat × Nat)} (h : placesOf P fields = some pl) (w : World) :
    (fields.mapM fun f => (do pure (f.offset, ← sizeOf f.type) : Sem (Nat × Nat))).run P w = .ok pl.toArray w := by
  have key : ∀ (fs : List Field) (pl : List (Nat × Nat)), (fs.mapM fun f => (shapeOf P f.type).map fun s => (f.offset, s.2)) = some pl →
      (fs.mapM fun f => (do pure (f.offset, ← sizeOf f.type) : Sem (Nat × Nat))).run P w = .ok pl w := by
    intro fs
    induction fs with
    | nil => intro pl h; simp at h; subst h; rfl
    | cons f fs ih =>
      intro pl h
      simp only [List.mapM_cons, Option.bind_eq_bind, Option.bind_eq_some_iff, Option.pure_def, Option.some.injEq, Option.map_eq_some_iff] at h
      obtain ⟨q, ⟨sh, hsh, rfl⟩, qs, hqs, rfl⟩ := h
      obtain ⟨hs, _⟩ := run_sizeOf' (agg := sh.1) (n := sh.2) hsh w
      simp only [List.mapM_cons, Sem.run_bind, hs, Result.andThen_ok, Sem.run_pure, ih qs hqs]
  have := key fields.toList pl h
  rw [Array.mapM_eq_mapM_toList, Sem.run_map, this]
  rfl

theorem build_sound {nt : Nat} {ρ : Env} {a : Act} (hρ : EnvR K nt ρ a) {t : TypeId} {z : List AV} (hz : zerosOf P t = some z) {parts : Array (Nat × Operand)} {ps : List (Nat × Nat × Arg)} {cs : List AV}
    (hp : (∃ fields pl, P.underlying t = some (.struct fields) ∧ placesOf P fields = some pl ∧ trParts nt (pl[·]?) parts.toList = some ps) ∨
      (∃ n e sh, P.underlying t = some (.array n e) ∧ shapeOf P e = some sh ∧ trParts nt (fun i => some (i * sh.2, sh.2)) parts.toList = some ps))
    (h : fill ρ z ps = some cs) :
    ∃ v', (Instr.build t (parts.map fun (i, x) => (i, a.eval x))).run P K.w = .ok v' K.w ∧ VR K (.agg cs) v' := by
  obtain ⟨inf, zv, hi, hzv, hzs, hzc⟩ := zeros_sound hz K
  rcases hp with ⟨fields, pl, hu, hpl, hps⟩ | ⟨n, e, sh, hu, hsh, hps⟩
  · obtain ⟨vs', h1, h2, h3, h4⟩ := fill_sound hρ hps hzs hzc h
    refine ⟨.agg vs'.toArray, ?_, VR.aggOf h2 h4⟩
    have h1' : Instr.fill (fun x => pl.toArray[x]?) zv.cells (parts.map fun (i, x) => (i, a.eval x)).toList = some vs'.toArray := by
      simpa using h1
    simp only [Instr.build, Sem.run_bind, zeroValue, run_typeInfo hi, Result.andThen_ok, hzv, Sem.run_pure, run_underlying hu, mapM_places hpl, h1']
  · obtain ⟨vs', h1, h2, h3, h4⟩ := fill_sound hρ hps hzs hzc h
    obtain ⟨hs, _⟩ := run_sizeOf' (agg := sh.1) (n := sh.2) hsh K.w
    refine ⟨.agg vs'.toArray, ?_, VR.aggOf h2 h4⟩
    have h1' : Instr.fill (fun i => some (i * sh.2, sh.2)) zv.cells (parts.map fun (i, x) => (i, a.eval x)).toList = some vs'.toArray := by
      simpa using h1
    simp only [Instr.build, Sem.run_bind, zeroValue, run_typeInfo hi, Result.andThen_ok, hzv, Sem.run_pure, run_underlying hu, hs, h1']

theorem zeroCells_range (zv : Array Value) (n sz : Nat) (h : zv.size = sz) : (Array.range (n * sz)).map (fun i => zv[i % zv.size]!) = Builtin.zeroCells zv n := by
  subst h; rfl

theorem flat_cells {z : List AV} (hz : z.all AV.isCell = true) (n : Nat) : ((List.replicate n z).flatten).all AV.isCell = true := by
  rw [List.all_eq_true] at *
  intro x hx
  simp only [List.mem_flatten, List.mem_replicate] at hx
  obtain ⟨l, ⟨_, rfl⟩, hx⟩ := hx
  exact hz x hx

theorem buildSl_sound {σ σ' : St} (hK : Rel K σ) {nt : Nat} {ρ : Env} {a : Act} (hρ : EnvR K nt ρ a) {t e : TypeId} (hu : P.underlying t = some (.slice e)) {sh : Bool × Nat} (hsh : shapeOf P e = some sh)
    {z : List AV} (hz : zerosOf P e = some z) {n : Nat} (hn : n * sh.2 ≤ 2 ^ 24) (hzl : z.length = sh.2) (hpos : 0 < sh.2) {parts : Array (Nat × Operand)} {ps : List (Nat × Nat × Arg)} {cs : List AV}
    (hps : trParts nt (fun i => some (i * sh.2, sh.2)) parts.toList = some ps) (h : fill ρ (List.replicate n z).flatten ps = some cs) {i : Id} (hnew : newCells σ cs = some (i, σ')) :
    ∃ K' v', (Instr.buildSlice t n (parts.map fun (i, x) => (i, a.eval x))).run P K.w = .ok v' K'.w ∧ Step K K' ∧ Rel K' σ' ∧ VR K' (.sl i 0 n (.ex n) sh.2) v' := by
  obtain ⟨inf, zv, hi, hzv, hzs, hzc⟩ := zeros_sound hz K
  obtain ⟨hs, _⟩ := run_sizeOf' (agg := sh.1) (n := sh.2) hsh K.w
  have hzsz : zv.cells.size = sh.2 := by rw [← hzl]; simpa using hzs.1
  obtain ⟨vs', h1, h2, h3, h4⟩ := fill_sound hρ hps (zeroCells_flat hzs n) (flat_cells hzc n) h
  have h1' : Instr.fill (fun i => some (i * sh.2, sh.2)) (Builtin.zeroCells zv.cells n) (parts.map fun (i, x) => (i, a.eval x)).toList = some vs'.toArray := by
    simpa using h1
  have hl : vs'.length = n * sh.2 := by rw [h3]; simp [Builtin.zeroCells, hzsz]
  obtain ⟨K', k1, k2, k3, k4, k5⟩ := newVar_sound hK (arr := vs'.toArray) (by simpa using h2) hnew e _ rfl
  refine ⟨K', _, ?_, k2, k3, k5 sh.2 n n (.ex n) (Nat.le_refl _) rfl (by simp [hl])⟩
  rw [k1]
  have hn' : ¬ (n * sh.2 > 2 ^ 24) := by omega
  simp only [Instr.buildSlice, Sem.run_bind, run_underlying hu, Result.andThen_ok, hs, hn', if_false]
  by_cases h0 : n * sh.2 = 0
  · have hn0 : n = 0 := by rcases Nat.mul_eq_zero.1 h0 with h | h <;> omega
    subst hn0
    have hvs : vs' = [] := List.eq_nil_of_length_eq_zero (by rw [hl]; simp)
    subst hvs
    have : Builtin.zeroCells zv.cells 0 = #[] := by simp [Builtin.zeroCells]
    rw [this] at h1'
    have e0 : (Array.range 0).map (fun x => (#[] : Array Value)[x % 0]!) = #[] := by simp
    have h1'' : Instr.fill (fun i => some (i * sh.2, sh.2)) #[] (parts.map fun x => (x.1, a.eval x.2)).toList = some #[] := h1'
    simp only [Nat.zero_mul, if_true, Sem.run_pure, Result.andThen_ok, List.size_toArray, List.length_nil, e0, h1'', newRow, Sem.run_bind, run_newObj]
  · simp only [h0, if_false, Sem.run_bind, zeroValue, run_typeInfo hi, Result.andThen_ok, hzv, Sem.run_pure, zeroCells_range zv.cells n sh.2 hzsz, h1', newRow, run_newObj]

theorem makeSl_sound {σ σ' : St} (hK : Rel K σ) {t e : TypeId} (hu : P.underlying t = some (.slice e)) {inf : TypeInfo} (hi : P.info? e = some inf) {z : List AV} (hz : zerosOf P e = some z)
    (hzl : z.length = inf.size) (hpos : 0 < inf.size) {xl xc : AV} {vl vc : Value} (hl : VR K xl vl) (hc : VR K xc vc) {l c : Nat} (h1 : asNat xl = some l) (h2 : asNat xc = some c) (hlc : l ≤ c) (hb : c * inf.bytes ≤ growMax)
    (hcm : c ≤ 9223372036854775807) {i : Id} (hnew : newCells σ (List.replicate c z).flatten = some (i, σ')) :
    ∃ K' v', (Instr.makeSlice t vl vc).run P K.w = .ok v' K'.w ∧ Step K K' ∧ Rel K' σ' ∧ VR K' (.sl i 0 l (.ex c) inf.size) v' := by
  obtain ⟨inf', zv, hi', hzv, hzs, hzc⟩ := zeros_sound hz K
  rw [hi] at hi'; simp only [Option.some.injEq] at hi'; subst hi'
  have hzsz : zv.cells.size = inf.size := by rw [← hzl]; simpa using hzs.1
  obtain ⟨k1, rfl⟩ := asNat_int h1
  obtain ⟨k2, rfl⟩ := asNat_int h2
  cases hl; cases hc
  have hlz : (Builtin.zeroCells zv.cells c).size = c * inf.size := by simp [Builtin.zeroCells, hzsz]
  obtain ⟨K', q1, q2, q3, q4, q5⟩ := newVar_sound hK (arr := Builtin.zeroCells zv.cells c) (zeroCells_flat hzs c) hnew e _ rfl
  refine ⟨K', _, ?_, q2, q3, q5 inf.size l c (.ex c) hlc rfl (by rw [hlz]; exact Nat.le_refl _)⟩
  rw [q1]
  have hg : growMax = 2 ^ 48 := rfl
  have w1 : IntKind.i64.wrap (l : Int) = l := by simp [IntKind.wrap, IntKind.bits, IntKind.signed]; omega
  have w2 : IntKind.i64.wrap (c : Int) = c := by simp [IntKind.wrap, IntKind.bits, IntKind.signed]; omega
  have hb1 : ¬ ((inf.bytes : Int) * (c : Int) > 2 ^ 48) := by
    have : (inf.bytes : Int) * (c : Int) = ((c * inf.bytes : Nat) : Int) := by push_cast; rw [Int.mul_comm]
    rw [this]; omega
  have hz0 : (c = 0 ∨ inf.size = 0 ↔ c = 0) := ⟨fun h => h.elim id (fun h => by omega), .inl⟩
  simp only [Instr.makeSlice, Sem.run_bind, run_underlying hu, Result.andThen_ok, asInt, asIntOf, Sem.run_pure, run_typeInfo hi, w1, w2]
  have d1 : ((decide ((c : Int) < 0) || decide ((inf.bytes : Int) * (c : Int) > 2 ^ 48)) || decide ((l : Int) < 0) || decide ((l : Int) > (c : Int))) = false := by
    simp only [Bool.or_eq_false_iff, decide_eq_false_iff_not]
    refine ⟨⟨⟨by omega, hb1⟩, by omega⟩, by omega⟩
  simp only [d1, Bool.false_eq_true, if_false, Int.toNat_natCast]
  simp only [Sem.run_bind, run_askRoom, Result.andThen_ok, sizeOf, run_typeInfo hi, Sem.run_pure]
  by_cases h0 : c * inf.size = 0
  · have hn0 : c = 0 := by rcases Nat.mul_eq_zero.1 h0 with h | h <;> omega
    subst hn0
    have e0 : Array.range 0 = #[] := by simp
    simp [newRow, Builtin.zeroCells, e0]
  · simp only [h0, if_false, Sem.run_bind, zeroValue, run_typeInfo hi, Result.andThen_ok, hzv, Sem.run_pure, zeroCells_range zv.cells c inf.size hzsz, newRow, run_newObj]


/-! ### bytes and strings -/

theorem mapM_byteOf : ∀ {cs : List AV} {s : List UInt8}, cs.mapM byteOf = some s → ∃ ns : List Int, cs = ns.map (AV.int .u8) ∧ s = ns.map fun n => UInt8.ofNat n.toNat
  | [], s, h => by simp at h; subst h; exact ⟨[], rfl, rfl⟩
  | c :: cs, s, h => by
    simp only [List.mapM_cons, Option.bind_eq_bind, Option.bind_eq_some_iff, Option.pure_def, Option.some.injEq] at h
    obtain ⟨b, hb, bs, hbs, rfl⟩ := h
    obtain ⟨ns, rfl, rfl⟩ := mapM_byteOf hbs
    unfold byteOf at hb
    split at hb <;> simp only [Option.some.injEq, reduceCtorEq] at hb
    rename_i n
    subst hb
    exact ⟨n :: ns, rfl, rfl⟩

theorem VRs_ints {ns : List Int} {k : IntKind} {vs : List Value} (h : VRs K (ns.map (AV.int k)) vs) : vs = ns.map (Value.int k) := by
  apply List.ext_getElem (by simpa using h.1)
  intro j h1 h2
  have hj : j < (ns.map (AV.int k)).length := by simpa using h2
  have := h.2 j hj
  rw [List.getElem_map, List.getElem?_eq_getElem h1] at this
  simp only [Option.getD_some] at this
  rw [List.getElem_map]
  generalize vs[j] = q at this
  cases this; rfl

theorem foldl_bytes : ∀ (ns : List Int) (s : List UInt8), ns.foldl (fun r n => r.push (UInt8.ofNat n.toNat)) (⟨s.toArray⟩ : ByteArray) = ⟨(s ++ ns.map fun n => UInt8.ofNat n.toNat).toArray⟩
  | [], s => by simp
  | n :: ns, s => by
    simp only [List.foldl_cons, List.map_cons]
    rw [show (⟨s.toArray⟩ : ByteArray).push (UInt8.ofNat n.toNat) = ⟨(s ++ [UInt8.ofNat n.toNat]).toArray⟩ by simp [ByteArray.push], foldl_bytes ns]
    simp

theorem strOf_sound {σ : St} (hK : Rel K σ) {x : AV} {vx : Value} (hx : VR K x vx) (hns : ∀ s, x ≠ .str s) {n : Nat} (hn : lenOf x = some n) {cs : List AV} (he : elems σ 1 n x = some cs) {s : List UInt8} (hs : cs.mapM byteOf = some s)
    {src dst e : TypeId} (hu : P.underlying src = some (.slice e)) (hb : P.underlying e = some (.int .u8)) (hd : P.underlying dst = some .string) :
    ∃ v', (Go.convert src dst vx).run P K.w = .ok v' K.w ∧ VR K (.str s) v' := by
  obtain ⟨ns, rfl, rfl⟩ := mapM_byteOf hs
  obtain ⟨hl, _, vs, hv, hr⟩ := elems_sound (P := P) hK hx he
  have hvs := VRs_ints hv
  subst hvs
  refine ⟨.string ⟨(ns.map fun n => UInt8.ofNat n.toNat).toArray⟩, ?_, .str _⟩
  have hr := hr K.w rfl
  have some' : ∀ (a : Addr) (len c : Nat), vx = .slice (some a) len c → len = n → (Go.convert src dst vx).run P K.w = .ok (.string ⟨(ns.map fun n => UInt8.ofNat n.toNat).toArray⟩) K.w := by
    intro a len c e1 e2
    subst e1; subst e2
    rw [run_convert_bytes_string K.w src dst e (some a) len c hu hb hd, run_bytesToString K.w a len c ns (by simpa [Builtin.firstCells] using hr)]
    have := foldl_bytes ns []
    simp only [List.nil_append] at this
    rw [← this]; rfl
  have none' : vx = .slice none 0 0 → ns = [] → (Go.convert src dst vx).run P K.w = .ok (.string ⟨(ns.map fun n => UInt8.ofNat n.toNat).toArray⟩) K.w := by
    intro e1 e2
    subst e1; subst e2
    rw [run_convert_bytes_string K.w src dst e none 0 0 hu hb hd]
    rfl
  cases hx <;> simp [lenOf] at hn <;> subst hn
  case str => exact absurd rfl (hns _)
  case nilsl => exact none' rfl (by simpa using hl)
  case esl => exact some' _ _ _ rfl rfl
  case sl => exact some' _ _ _ rfl rfl
  case isl => exact some' _ _ _ rfl rfl
  case islE => exact some' _ _ _ rfl rfl
  case islNil => exact none' rfl (by simpa using hl)

theorem load_world {a : Addr} {w w' : World} {v : Value} (h : (load a).run P w = .ok v w') : w' = w := by
  rw [run_load] at h
  split at h
  · simp only [Result.ok.injEq] at h; exact h.2.symm
  · split at h
    · simp only [Result.ok.injEq] at h; exact h.2.symm
    · simp at h

theorem loads_inv {a : Addr} {w w' : World} : ∀ (n i : Nat) (acc out : Array Value), (loadCellsFrom a i n acc).run P w = .ok out w' →
    ∃ l : List Value, out.toList = acc.toList ++ l ∧ l.length = n ∧ ∀ j v, l[j]? = some v → (load (a.add (i + j))).run P w = .ok v w
  | 0, i, acc, out, h => by
    simp only [loadCellsFrom, Sem.run_pure, Result.ok.injEq] at h
    obtain ⟨rfl, _⟩ := h
    exact ⟨[], by simp, rfl, fun j v hj => by simp at hj⟩
  | n + 1, i, acc, out, h => by
    simp only [loadCellsFrom, Sem.run_bind] at h
    cases hr : (load (a.add i)).run P w with
    | ok v w1 =>
      have hw := load_world hr
      subst hw
      rw [hr] at h
      simp only [Result.andThen_ok] at h
      obtain ⟨l, h1, h2, h3⟩ := loads_inv n (i + 1) _ _ h
      refine ⟨v :: l, by simpa using h1, by simp [h2], fun j u hj => ?_⟩
      cases j with
      | zero => simp only [List.getElem?_cons_zero, Option.some.injEq] at hj; subst hj; exact hr
      | succ j =>
        have := h3 j u (by simpa using hj)
        rw [show i + (j + 1) = i + 1 + j by omega]; exact this
    | _ => rw [hr] at h; simp [Result.andThen] at h

theorem run_loadBytesL {w : World} : ∀ (xs : List Int) (a : Addr) (acc : ByteArray), (∀ j x, xs[j]? = some x → (load (a.add j)).run P w = .ok (.int .u8 x) w) →
    (Extern.Bytes.loadBytes a xs.length acc).run P w = .ok ⟨acc.data ++ (xs.map fun n => UInt8.ofNat n.toNat).toArray⟩ w
  | [], a, acc, _ => by simp [Extern.Bytes.loadBytes]
  | x :: l, a, acc, h => by
    have h0 : (load a).run P w = .ok (.int .u8 x) w := by
      have := h 0 x rfl
      rwa [show a.add 0 = a by simp [Addr.add]] at this
    have ih := run_loadBytesL l (a.add 1) (acc.push x.toNat.toUInt8) (fun j y hy => by
      have := h (j + 1) y (by simpa using hy)
      have e : (a.add 1).add j = a.add (j + 1) := by
        unfold Addr.add
        by_cases hj : j = 0
        · subst hj; simp
        · simp [hj]; omega
      rw [e]; exact this)
    simp only [List.length_cons, Extern.Bytes.loadBytes, Sem.run_bind, h0, Result.andThen]
    rw [ih]
    congr 1
    apply ByteArray.ext
    simp [ByteArray.push]

theorem bytesIn_sound {σ : St} (hK : Rel K σ) {x : AV} {vx : Value} (hx : VR K x vx) {s : List UInt8} (hb : bytesIn σ x = some s) : (Extern.Bytes.bytesOf vx).run P K.w = .ok ⟨s.toArray⟩ K.w := by
  unfold bytesIn at hb
  split at hb
  · simp only [Option.some.injEq] at hb
    subst hb
    cases hx
    rfl
  rename_i hns
  split at hb <;> try simp only [Option.bind_eq_some_iff, reduceCtorEq] at hb
  rename_i n hn
  obtain ⟨cs, he, hs⟩ := hb
  obtain ⟨ns, rfl, rfl⟩ := mapM_byteOf hs
  obtain ⟨hl, _, vs, hv, hr⟩ := elems_sound (P := P) hK hx he
  have hvs := VRs_ints hv
  subst hvs
  have hr := hr K.w rfl
  have hl : ns.length = n := by simpa using hl
  have some' : ∀ (a : Addr) (len c : Nat), vx = .slice (some a) len c → len = n → (Extern.Bytes.bytesOf vx).run P K.w = .ok ⟨(ns.map fun n => UInt8.ofNat n.toNat).toArray⟩ K.w := by
    intro a len c e1 e2
    subst e1; subst e2
    have hr : (loadCellsFrom a 0 len #[]).run P K.w = .ok (ns.map (Value.int .u8)).toArray K.w := by simpa [Builtin.firstCells, loadCells] using hr
    obtain ⟨l, h1, h2, h3⟩ := loads_inv _ _ _ _ hr
    simp only [List.nil_append] at h1
    subst h1
    have := run_loadBytesL (P := P) (w := K.w) ns a .empty (fun j x hj => by
      have := h3 j (.int .u8 x) (by simp [hj])
      simpa using this)
    rw [hl] at this
    simp only [Extern.Bytes.bytesOf, this]
    congr 1
    apply ByteArray.ext
    simp
  have none' : (∃ l c, vx = .slice none l c) → ns = [] → (Extern.Bytes.bytesOf vx).run P K.w = .ok ⟨(ns.map fun n => UInt8.ofNat n.toNat).toArray⟩ K.w := by
    rintro ⟨_, _, e1⟩ e2
    subst e1; subst e2
    rfl
  cases hx <;> simp [lenOf] at hn <;> subst hn
  case str => exact absurd rfl (hns _)
  case nilsl => exact none' ⟨_, _, rfl⟩ (List.eq_nil_of_length_eq_zero hl)
  case esl => exact some' _ _ _ rfl rfl
  case sl => exact some' _ _ _ rfl rfl
  case isl => exact some' _ _ _ rfl rfl
  case islE => exact some' _ _ _ rfl rfl
  case islNil => exact none' ⟨_, _, rfl⟩ (List.eq_nil_of_length_eq_zero hl)

theorem idxB_sound {σ : St} (hK : Rel K σ) {x : AV} {vx : Value} (hx : VR K x vx) {s : List UInt8} (hs : bytesIn σ x = some s) (n : Int) :
    (Extern.BytealgIndexByte.indexByte #[vx, .int .u8 n]).run P K.w = .ok (.int .i64 (Lib.indexByte s n.toNat.toUInt8)) K.w := by
  have h := Lib.run_indexByteString (P := P) ⟨s.toArray⟩ n K.w
  have hb := bytesIn_sound (P := P) hK hx hs
  change Sem.run P (do
    let b ← Extern.Bytes.bytesOf vx
    let c ← Extern.Bytes.asByte (.int .u8 n)
    match (List.range b.size).find? fun i => b[i]! == c with
    | some i => pure (goInt i)
    | none => pure (goInt (-1))) K.w = _
  change Sem.run P (do
    let b ← Extern.Bytes.bytesOf (.string ⟨s.toArray⟩)
    let c ← Extern.Bytes.asByte (.int .u8 n)
    match (List.range b.size).find? fun i => b[i]! == c with
    | some i => pure (goInt i)
    | none => pure (goInt (-1))) K.w = _ at h
  have hb2 : (Extern.Bytes.bytesOf (.string ⟨s.toArray⟩)).run P K.w = .ok ⟨s.toArray⟩ K.w := rfl
  rw [Sem.run_bind, hb2] at h
  rw [Sem.run_bind, hb]
  exact h

theorem cmpB_sound {σ : St} (hK : Rel K σ) {x y : AV} {vx vy : Value} (hx : VR K x vx) (hy : VR K y vy) {s t : List UInt8} (hs : bytesIn σ x = some s) (ht : bytesIn σ y = some t) :
    (Extern.BytealgCompare.compare #[vx, vy]).run P K.w = .ok (.int .i64 (Lib.compareBytes s t)) K.w := by
  change Sem.run P (do pure (goInt (Extern.BytealgCompare.cmp (← Extern.Bytes.bytesOf vx) (← Extern.Bytes.bytesOf vy)))) K.w = _
  simp only [Sem.run_bind, bytesIn_sound (P := P) hK hx hs, Result.andThen_ok, bytesIn_sound (P := P) hK hy ht, Sem.run_pure]
  rw [Lib.cmp_eq]
  rfl

theorem bytesOf_sound {σ σ' : St} (hK : Rel K σ) {s : List UInt8} {i : Id} (hnew : newCells σ (s.map fun b => .int .u8 b.toNat) = some (i, σ'))
    {src dst e : TypeId} {u : TypeDesc} (hu : P.underlying src = some u) (hd : P.underlying dst = some (.slice e)) (hb : P.underlying e = some (.int .u8)) :
    ∃ K' v', (Go.convert src dst (.string ⟨s.toArray⟩)).run P K.w = .ok v' K'.w ∧ Step K K' ∧ Rel K' σ' ∧ VR K' (.sl i 0 s.length (.ge s.length) 1) v' := by
  obtain ⟨hc, rfl, rfl⟩ := newCells_eq hnew
  have hrun := Lib.run_convert_string_bytes (P := P) K.w src dst e ⟨s.toArray⟩ hu hd hb
  have hge := grownCap_ge K.w (ByteArray.mk s.toArray).size 0 e
  have hsz : (ByteArray.mk s.toArray).size = s.length := by simp [ByteArray.size]
  have hw : (Lib.bytesWorld K.w e ⟨s.toArray⟩).heap = K.w.heap.push (.cells (Lib.bytesCells K.w e ⟨s.toArray⟩) e ((Lib.bytesCells K.w e ⟨s.toArray⟩).size, (Lib.bytesCells K.w e ⟨s.toArray⟩).size + 1)) := by
    apply Array.ext_getElem?
    intro j
    by_cases hj : j < K.w.heap.size
    · rw [Lib.bytesWorld_at_old _ _ _ _ hj, Array.getElem?_push]; simp [Nat.ne_of_lt hj]
    · by_cases hj2 : j = K.w.heap.size
      · subst hj2; rw [Lib.bytesWorld_at_new]; simp
      · rw [Array.getElem?_eq_none (by rw [Lib.bytesWorld_size]; omega), Array.getElem?_eq_none (by simp; omega)]
  have hcs : (Lib.bytesCells K.w e ⟨s.toArray⟩).size = grownCap K.w s.length 0 e := by
    rw [hsz] at hge
    simp [Lib.bytesCells, hsz]; omega
  obtain ⟨K', k1, k2, k3, k4, k5⟩ := new_sound hK (fun _ => false) hc (cs := s.map fun b => .int .u8 b.toNat) (vs := s.map fun b => .int .u8 b.toNat) ⟨by simp, fun j hj => by
      simp only [List.length_map] at hj
      rw [List.getElem_map, List.getElem?_map, List.getElem?_eq_getElem hj]
      exact .int _ _⟩ hw (by unfold Lib.bytesWorld World.freeze; split <;> exact ⟨rfl, rfl⟩) (fun j hj => by
      simp only [List.length_map] at hj
      simp [Lib.bytesCells, Array.getElem?_append_left, hj]) (.inr (Nat.le_refl _))
  refine ⟨K', _, by rw [k1]; exact hrun, k2, k3, ?_⟩
  rw [hsz] at hge ⊢
  exact k5 1 s.length _ (.ge s.length) hge hge (by rw [hcs]; omega)

/-- A block, marked behind its cells. -/
theorem freeze_at {w : World} {b : Nat} {C : Array Value} {T : TypeId} {lo hi : Nat} (hb : w.heap[b]? = some (.cells C T (lo, hi))) (hf : lo = hi ∨ C.size ≤ lo) :
    ∃ lo' hi', (w.freeze ⟨b, C.size, none⟩ 1).heap[b]? = some (.cells C T (lo', hi')) ∧ C.size ≤ lo' ∧ (∀ b', b' ≠ b → (w.freeze ⟨b, C.size, none⟩ 1).heap[b']? = w.heap[b']?) ∧
      (w.freeze ⟨b, C.size, none⟩ 1).heap.size = w.heap.size ∧ (w.freeze ⟨b, C.size, none⟩ 1).os = w.os ∧ (w.freeze ⟨b, C.size, none⟩ 1).output = w.output := by
  have e : w.freeze ⟨b, C.size, none⟩ 1 = { w with heap := w.heap.modify b fun
      | .cells c elem (lo, hi) => .cells c elem (if lo == hi then (C.size, C.size + 1) else (min lo C.size, max hi (C.size + 1)))
      | o => o } := by
    unfold World.freeze
    rw [if_neg (by decide)]
    simp only [World.mk.injEq, and_true]
    congr 1
  rw [e]
  by_cases h : lo = hi
  · subst h
    refine ⟨C.size, C.size + 1, by simp [Array.getElem?_modify, hb], Nat.le_refl _, fun b' hne => by simp [Array.getElem?_modify, Ne.symm hne], by simp, rfl, rfl⟩
  · have h2 : C.size ≤ lo := hf.resolve_left h
    refine ⟨C.size, max hi (C.size + 1), by simp [Array.getElem?_modify, hb, h, Nat.min_eq_right h2], Nat.le_refl _, fun b' hne => by simp [Array.getElem?_modify, Ne.symm hne], by simp, rfl, rfl⟩

theorem convSl_sound {σ : St} (hK : Rel K σ) {i : Id} {o n z : Nat} {c : Cap} {vx : Value} (hx : VR K (.sl i o n c z) vx) {cs : List AV} (hg : σ.get i = some cs) {t e : TypeId} (ht : P.underlying t = some (.slice e)) (he : P.underlying e = some (.int .u8)) :
    ∃ K', (Go.convert t t vx).run P K.w = .ok vx K'.w ∧ Step K K' ∧ Rel K' σ ∧ VR K' (.sl i o n c z) vx := by
  obtain ⟨b, d, hm, hrow, hfz0⟩ := hK.row hg
  have hfz := hK.fz hg hm
  have hx0 := hx
  cases hx with
  | @sl _ _ _ _ _ a cp hb hpa hl hcap hrm =>
    have ha := hpa b d hm
    subst ha
    cases hsh : K.w.shape? b with
    | none =>
      exact ⟨K, by simp [Go.convert, run_underlying ht, run_underlying he, markStringish, hsh], Step.refl K, hK, hx0⟩
    | some p =>
      obtain ⟨T, m⟩ := p
      have hcell : ∃ C lo hi, K.w.heap[b]? = some (.cells C T (lo, hi)) ∧ m = C.size := by
        unfold World.shape? at hsh
        split at hsh
        · rename_i C el fz hh
          simp only [Option.some.injEq, Prod.mk.injEq] at hsh
          obtain ⟨rfl, rfl⟩ := hsh
          obtain ⟨lo, hi⟩ := fz
          exact ⟨C, lo, hi, hh, rfl⟩
        · simp at hsh
      obtain ⟨C, lo, hi, hh, rfl⟩ := hcell
      obtain ⟨lo', hi', f1, f2, f3, f4, f5, f6⟩ := freeze_at hh (hfz _ _ _ _ hh)
      have hc? : ∀ b' o', (K.w.freeze ⟨b, C.size, none⟩ 1).cell? ⟨b', o', none⟩ = K.w.cell? ⟨b', o', none⟩ := fun b' o' => by
        by_cases hb' : b' = b
        · subst hb'; simp [World.cell?, f1, hh]
        · exact cell?_congr (f3 b' hb')
      have hin : ∀ o', (K.w.cell? ⟨b, o', none⟩).isSome = true → (K.w.freeze ⟨b, C.size, none⟩ 1).frozen? ⟨b, o', none⟩ = false := fun o' ho' => by
        have : o' < C.size := by
          simp only [World.cell?, hh] at ho'
          rcases Nat.lt_or_ge o' C.size with h | h
          · exact h
          · simp [Array.getElem?_eq_none h] at ho'
        simp only [World.frozen?, f1, Bool.and_eq_false_imp, decide_eq_true_eq, decide_eq_false_iff_not]
        omega
      have hext : Ext K { K with w := K.w.freeze ⟨b, C.size, none⟩ 1 } :=
        ⟨by rw [f4]; exact Nat.le_refl _, fun b' _ hf => f3 b' (by rintro rfl; exact hf i d hm), fun _ _ h => h, fun _ _ _ h => h, fun _ h => h, fun _ _ _ h => h,
          fun b' o' hr => ⟨by show ((K.w.freeze ⟨b, C.size, none⟩ 1).cell? _).isSome = true; rw [hc?]; exact hr.1, by
            by_cases hb' : b' = b
            · subst hb'; exact hin o' hr.1
            · show (K.w.freeze ⟨b, C.size, none⟩ 1).frozen? _ = false
              rw [frozen?_congr (f3 b' hb')]; exact hr.2⟩, ⟨f5, f6⟩, rfl⟩
      refine ⟨_, ?_, ⟨hext, fun _ => Iff.rfl⟩, ⟨hK.bd, hK.inj, fun j b' d' hj => by rw [f4]; exact hK.lt j b' d' hj, hK.mubd, hK.fm, fun b' hb' => by rw [f4]; exact hK.fmlt b' hb', fun j x hx => ?_⟩, hx0.ext hext⟩
      · simp [Go.convert, run_underlying ht, run_underlying he, markStringish, hsh]
      · obtain ⟨b', d', h1, h2⟩ := hK.blk j x hx
        refine ⟨b', d', h1, ?_⟩
        by_cases hb' : b' = b
        · subst hb'
          have hji := hK.inj _ _ _ _ _ h1 hm
          subst hji
          rw [hm] at h1
          simp only [Option.some.injEq, Prod.mk.injEq, true_and] at h1
          subst h1
          have hxc : x = .cells cs := by
            have := get_heap' hg
            rw [hx] at this
            exact Option.some.inj this
          subst hxc
          obtain ⟨g1, g2, g, g3, g4⟩ := h2
          refine ⟨g1, fun C' e' l' h' hh' => ?_, g, fun j hj => ⟨?_, ?_⟩, fun j hj => (g4 j hj).ext hext⟩
          · rw [f1] at hh'
            simp only [Option.some.injEq, Obj.cells.injEq, Prod.mk.injEq] at hh'
            obtain ⟨rfl, _, rfl, rfl⟩ := hh'
            exact .inr f2
          · show (K.w.freeze ⟨_, C.size, none⟩ 1).cell? _ = _
            rw [hc?]; exact (g3 j hj).1
          · exact hin _ (by rw [(g3 j hj).1]; rfl)
        · exact h2.ext hext (f3 b' hb')

end
end Go.Vm
