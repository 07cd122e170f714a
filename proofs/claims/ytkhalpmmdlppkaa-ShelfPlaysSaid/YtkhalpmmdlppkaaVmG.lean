/-
  THE GENERIC LAYER 'Vm', part G: nil, conversions, slices, addresses.
-/
import Derived.Test.YtkhalpmmdlppkaaVmF
namespace Go.Vm
section
variable {P : Program} {K : Ctx} {w : World}

def nkOf : TypeDesc → Option NK
  | .pointer _ => some .p
  | .slice _ => some .s
  | .map _ _ => some .m
  | .func _ _ _ => some .f
  | .interface _ => some .i
  | _ => none

theorem eqnil_sound {k : NK} {t : TypeId} {dd : TypeDesc} (hu : P.underlying t = some dd) (hk : nkOf dd = some k) (d : Nat) {x y : AV} {vx vy : Value} {b : Bool}
    (hx : VR K x vx) (hy : VR K y vy) (h : eqv (.nil k) x y = some b) : (Op.equalIn (d + 1) t vx vy).run P w = .ok b w := by
  simp only [Op.equalIn, Sem.run_bind, run_underlying hu, Result.andThen_ok]
  cases dd <;> simp only [nkOf, Option.some.injEq, reduceCtorEq] at hk <;> subst hk
  all_goals
    cases x <;> cases y <;> simp only [eqv, Option.some.injEq, reduceCtorEq] at h
    all_goals first
      | (subst h; cases hx <;> cases hy <;> rfl)
      | (split at h <;> simp only [Option.some.injEq, reduceCtorEq] at h; subst h; cases hx <;> cases hy <;> first | rfl | (exfalso; omega))


theorem asNat_int {x : AV} {n : Nat} (h : asNat x = some n) : ∃ k, x = .int k n := by
  cases x <;> simp [asNat] at h
  obtain ⟨h0, rfl⟩ := h
  exact ⟨_, by rw [Int.toNat_of_nonneg h0]⟩

theorem sliceBound_sound {x : AV} {vx : Value} (hx : VR K x vx) {n y : Nat} (h : asNat x = some n) (hy : n ≤ y) (code : BoundsCode) : (Instr.sliceBound vx y code).run P w = .ok n w := by
  obtain ⟨k, rfl⟩ := asNat_int h
  cases hx
  simp [Instr.sliceBound, asIntOf]
  intro h; omega

theorem bnd_some {ρ : Env} {x : Arg} {most dflt n : Nat} (h : bnd ρ (some x) most dflt = some n) : asNat (x.get ρ) = some n ∧ n ≤ most := by
  unfold bnd at h
  simp only at h
  split at h
  · split at h <;> simp only [Option.some.injEq, reduceCtorEq] at h
    subst h; exact ⟨by assumption, by assumption⟩
  · simp at h

theorem trOpt_some {nt : Nat} {ox : Option Operand} {oa : Option Arg} (h : trOpt nt ox = some oa) : (ox = none ∧ oa = none) ∨ ∃ x y, ox = some x ∧ oa = some y ∧ trArg nt x = some y := by
  unfold trOpt at h
  split at h
  · simp at h; exact .inl ⟨rfl, h.symm⟩
  · simp only [Option.map_eq_some_iff] at h
    obtain ⟨y, h1, h2⟩ := h
    exact .inr ⟨_, y, rfl, h2.symm, h1⟩

theorem sliceBounds_sound {nt : Nat} {ρ : Env} {a : Act} (hρ : EnvR K nt ρ a) {lo hi mx : Option Operand} {lo' hi' mx' : Option Arg} (hlo : trOpt nt lo = some lo') (hhi : trOpt nt hi = some hi')
    (hmx : trOpt nt mx = some mx') (hmh : (mx'.isSome && hi'.isNone) = false) (isSl : Bool) {len capc room l h m : Nat} (hroom : room ≤ capc)
    (h1 : bnd ρ mx' room room = some m) (h2 : bnd ρ hi' m len = some h) (h3 : bnd ρ lo' h 0 = some l) :
    (Instr.sliceBounds isSl len capc (lo.map a.eval) (hi.map a.eval) (mx.map a.eval)).run P w = .ok (l, h, if mx'.isSome then m else capc) w ∧ (mx'.isSome = true → m ≤ capc) := by
  have hL : (lo = none ∧ l = 0) ∨ ∃ x, lo = some x ∧ ∀ code, (Instr.sliceBound (a.eval x) h code).run P w = .ok l w := by
    rcases trOpt_some hlo with ⟨rfl, rfl⟩ | ⟨x, y, rfl, rfl, hxy⟩
    · simp [bnd] at h3; exact .inl ⟨rfl, h3.symm⟩
    · obtain ⟨e1, e2⟩ := bnd_some h3
      exact .inr ⟨x, rfl, fun code => sliceBound_sound (arg_sound hρ hxy) e1 e2 code⟩
  rcases trOpt_some hmx with ⟨rfl, rfl⟩ | ⟨x, y, rfl, rfl, hxy⟩
  · simp [bnd] at h1; subst h1
    refine ⟨?_, by simp⟩
    rcases trOpt_some hhi with ⟨rfl, rfl⟩ | ⟨p, q, rfl, rfl, hpq⟩
    · simp [bnd] at h2; subst h2
      rcases hL with ⟨rfl, rfl⟩ | ⟨z, rfl, hz⟩
      · simp [Instr.sliceBounds]
      · simp [Instr.sliceBounds, hz]
    · obtain ⟨e1, e2⟩ := bnd_some h2
      have hb := fun code => sliceBound_sound (P := P) (w := w) (arg_sound hρ hpq) e1 (Nat.le_trans e2 hroom) code
      rcases hL with ⟨rfl, rfl⟩ | ⟨z, rfl, hz⟩
      · simp [Instr.sliceBounds, hb]
      · simp [Instr.sliceBounds, hz, hb]
  · obtain ⟨f1, f2⟩ := bnd_some h1
    refine ⟨?_, fun _ => Nat.le_trans f2 hroom⟩
    have hm := fun code => sliceBound_sound (P := P) (w := w) (arg_sound hρ hxy) f1 (Nat.le_trans f2 hroom) code
    rcases trOpt_some hhi with ⟨rfl, rfl⟩ | ⟨p, q, rfl, rfl, hpq⟩
    · simp at hmh
    · obtain ⟨e1, e2⟩ := bnd_some h2
      have hb := fun code => sliceBound_sound (P := P) (w := w) (arg_sound hρ hpq) e1 e2 code
      rcases hL with ⟨rfl, rfl⟩ | ⟨z, rfl, hz⟩
      · simp [Instr.sliceBounds, hb, hm]
      · simp [Instr.sliceBounds, hz, hb, hm]

theorem RowAt.isl {b o : Nat} {cs : List AV} {f : Bool} (h : RowAt K b o cs) (hnr : cs.all AV.nref = true) (hpos : cs ≠ [] → b < K.w.heap.size ∧ K.free b ∧ (f = false → ¬ K.fm b ∧ cs.all AV.cln = true))
    {len c : Nat} {cap : Option Nat} (hl : len ≤ c) (hcap : CapR cap c) : VR K (.isl f cs len cap) (.slice (some ⟨b, o, none⟩) len c) := by
  obtain ⟨h0, g, h1, h2⟩ := h
  exact .isl g hpos h0 hnr h1 h2 hl hcap

theorem all_sub {p : AV → Bool} {cs : List AV} (h : cs.all p = true) (off n : Nat) : ((cs.drop off).take n).all p = true := by
  rw [List.all_eq_true] at h ⊢
  exact fun x hx => h x (List.mem_of_mem_drop (List.mem_of_mem_take hx))

theorem sliceSl_sound {nt : Nat} {ρ : Env} {a : Act} (hρ : EnvR K nt ρ a) {x v : AV} {vx : Value} (hx : VR K x vx) {lo hi mx : Option Operand} {lo' hi' mx' : Option Arg}
    (hlo : trOpt nt lo = some lo') (hhi : trOpt nt hi = some hi') (hmx : trOpt nt mx = some mx') (hmh : (mx'.isSome && hi'.isNone) = false)
    {t e : TypeId} (hu : P.underlying t = some (.slice e)) {agg : Bool} {sz : Nat} (hs : shapeOf P e = some (agg, sz))
    (h : sliceSl sz x lo' hi' mx' ρ = some v) : ∃ v', (Instr.sliceAt t vx (lo.map a.eval) (hi.map a.eval) (mx.map a.eval)).run P K.w = .ok v' K.w ∧ VR K v v' := by
  obtain ⟨hsz, _⟩ := run_sizeOf' hs K.w
  unfold sliceSl at h
  split at h
  · -- nil
    cases hx
    simp only [Option.bind_eq_some_iff] at h
    obtain ⟨h', e1, l, e2, h⟩ := h
    split at h <;> simp only [Option.some.injEq, reduceCtorEq] at h
    rename_i hc
    obtain ⟨rfl, hmn⟩ := hc
    subst h
    have hmn' : mx' = none := by simpa using hmn
    subst hmn'
    have hl0 : l = 0 := by
      cases lo' with
      | none => simp [bnd] at e2; exact e2.symm
      | some y => have := (bnd_some e2).2; omega
    subst hl0
    have hb := (sliceBounds_sound (P := P) (w := K.w) hρ hlo hhi hmx hmh true (len := 0) (capc := 0) (room := 0) (l := 0) (h := 0) (m := 0) (Nat.le_refl _) rfl e1 e2).1
    refine ⟨.slice none 0 0, ?_, .nilsl⟩
    simp only [Instr.sliceAt, Sem.run_bind, run_underlying hu, Result.andThen_ok, Instr.slice, hb, hsz]
    simp
  · -- sl
    rename_i i off len cap sz'
    split at h
    · simp at h
    rename_i hszz
    have hszz : sz = sz' := (by simpa using hszz : sz' = sz).symm
    subst hszz
    cases hx with
    | @sl _ _ _ _ _ ad c hbd hpa hle hcap hrm =>
    simp only [Option.bind_eq_some_iff] at h
    obtain ⟨m, e0, h', e1, l, e2, h⟩ := h
    have hroom : cap.room ≤ c := by cases cap <;> simp [CapS, Cap.room] at hcap ⊢ <;> omega
    obtain ⟨hb, hmc⟩ := sliceBounds_sound (P := P) (w := K.w) hρ hlo hhi hmx hmh true (len := len) (capc := c) hroom e0 e1 e2
    have hlh : l ≤ h' := by
      cases lo' with
      | none => simp [bnd] at e2; omega
      | some y => exact (bnd_some e2).2
    have hrun : (Instr.sliceAt t (.slice (some ad) len c) (lo.map a.eval) (hi.map a.eval) (mx.map a.eval)).run P K.w =
        .ok (.slice (if (if mx'.isSome then m else c) = l then some ad else some (ad.add (l * sz))) (h' - l) ((if mx'.isSome then m else c) - l)) K.w := by
      simp only [Instr.sliceAt, Sem.run_bind, run_underlying hu, Result.andThen_ok, Instr.slice, hb, hsz, Sem.run_pure, Option.map_some]
    refine ⟨_, hrun, ?_⟩
    split at h
    · rename_i hhm
      have hcapR : CapS (cap.cut mx'.isSome m l) ((if mx'.isSome then m else c) - l) := by
        cases mx' with
        | some y => cases cap <;> simp [CapS, Cap.cut]
        | none =>
          simp [bnd] at e0
          cases cap <;> simp [CapS, Cap.cut, Cap.room] at hcap e0 ⊢ <;> omega
      have hle2 : h' ≤ (if mx'.isSome then m else c) := by
        cases mx' with
        | some y => simpa using hhm
        | none => simp [bnd] at e0; simp; omega
      split at h
      · rename_i hl0
        simp only [Option.some.injEq] at h; subst h; subst hl0
        have : (if (if mx'.isSome then m else c) = 0 then some ad else some (ad.add (0 * sz))) = some ad := by simp [Addr.add]
        rw [this]
        rw [Nat.sub_zero] at hcapR
        simp only [Nat.sub_zero]
        refine .sl hbd hpa hle2 hcapR (fun b d hm j hj => hrm b d hm j (Nat.lt_of_lt_of_le hj (Nat.mul_le_mul_right _ ?_)))
        cases mx' with
        | none => simp
        | some y => simpa using hmc rfl
      · split at h
        · rename_i hl0 hlm
          simp only [Option.some.injEq] at h; subst h
          have : h' - l = 0 := by omega
          rw [this]
          generalize (if mx'.isSome = true then m else c) = q
          split <;> exact .esl
        · rename_i hl0 hlm
          simp only [Option.some.injEq] at h; subst h
          have hne : ¬ (if mx'.isSome then m else c) = l := by
            cases mx' with
            | some y => simpa using fun e => hlm e.symm
            | none => simp [bnd] at e0; simp; omega
          rw [if_neg hne]
          refine .sl hbd (fun b d hm => ?_) (by omega) hcapR (fun b d hm j hj => ?_)
          · rw [hpa b d hm, addr_add, Nat.add_assoc]
          · have hcc : (if mx'.isSome then m else c) ≤ c := by
              cases mx' with
              | none => simp
              | some y => simpa using hmc rfl
            have := hrm b d hm (l * sz + j) (by
              have h1 : ((if mx'.isSome then m else c) - l) * sz = (if mx'.isSome then m else c) * sz - l * sz := Nat.sub_mul _ _ _
              have h2 : (if mx'.isSome then m else c) * sz ≤ c * sz := Nat.mul_le_mul_right _ hcc
              omega)
            rw [show d + (off + l * sz) + j = d + off + (l * sz + j) by omega]; exact this
    · simp at h
  · -- isl
    rename_i f cs len cap
    simp only [Option.bind_eq_some_iff] at h
    obtain ⟨m, e0, h', e1, l, e2, h⟩ := h
    split at h <;> simp only [Option.some.injEq, reduceCtorEq] at h
    rename_i hcond
    obtain ⟨hcs, hhm, hsz0⟩ := hcond
    have hlh : l ≤ h' := by
      cases lo' with
      | none => simp [bnd] at e2; omega
      | some y => exact (bnd_some e2).2
    subst h
    have key : ∀ (ad : Option Addr) (c : Nat), cap.getD len ≤ c → CapR cap c →
        (Instr.sliceAt t (.slice ad len c) (lo.map a.eval) (hi.map a.eval) (mx.map a.eval)).run P K.w =
        .ok (.slice (if (if mx'.isSome then m else c) = l then ad else ad.map (·.add (l * sz))) (h' - l) ((if mx'.isSome then m else c) - l)) K.w ∧ h' ≤ (if mx'.isSome then m else c) ∧
        CapR (cutI cap mx'.isSome m l) ((if mx'.isSome then m else c) - l) := by
      intro ad c hroom hcap
      obtain ⟨hb, hmc⟩ := sliceBounds_sound (P := P) (w := K.w) hρ hlo hhi hmx hmh true (len := len) (capc := c) hroom e0 e1 e2
      refine ⟨by simp only [Instr.sliceAt, Sem.run_bind, run_underlying hu, Result.andThen_ok, Instr.slice, hb, hsz, Sem.run_pure], ?_, ?_⟩
      · cases mx' with
        | some y => simpa using hhm
        | none => simp [bnd] at e0; simp; omega
      · cases mx' with
        | some y => cases cap <;> simp [CapR, cutI]
        | none =>
          simp [bnd] at e0
          cases cap <;> simp [CapR, cutI] at hcap e0 ⊢
          omega
    cases hx with
    | @isl _ _ _ _ b o c g hpos hcell hnr hc hv hl hcap =>
      obtain ⟨k1, k2, k3⟩ := key (some ⟨b, o, none⟩) c (by cases cap <;> simp [CapR] at hcap ⊢ <;> omega) hcap
      refine ⟨_, k1, ?_⟩
      have hrow : RowAt K b o cs := ⟨hcell, g, hc, hv⟩
      have hsub := hrow.sub (l * sz) ((h' - l) * sz)
      by_cases hmz : (if mx'.isSome then m else c) = l
      · have e3 : h' - l = 0 := by omega
        rw [if_pos hmz]
        simp only [e3, Nat.zero_mul, List.take_zero]
        have := (RowAt.nil K b o).isl rfl (f := f) (len := 0) (c := (if mx'.isSome then m else c) - l) (fun e => absurd rfl e) (Nat.zero_le _) k3
        exact this
      · rw [if_neg hmz]
        simp only [Option.map_some, addr_add]
        refine hsub.isl (all_sub hnr _ _) (fun hne => ?_) (by omega) k3
        obtain ⟨p1, p2, p3⟩ := hpos (by rintro rfl; simp at hne)
        exact ⟨p1, p2, fun hf => ⟨(p3 hf).1, all_sub (p3 hf).2 _ _⟩⟩
    | @islE _ ad c _ hcap =>
      obtain ⟨k1, k2, k3⟩ := key (some ad) c (by cases cap <;> simp [CapR] at hcap ⊢; omega) hcap
      refine ⟨_, k1, ?_⟩
      have e3 : h' = 0 := by
        have : h' * sz = 0 := by simpa using hcs
        rcases Nat.mul_eq_zero.1 this with h | h <;> omega
      have e4 : l = 0 := by omega
      subst e3; subst e4
      simp only [List.drop_nil, List.take_nil, Nat.sub_zero] at k3 ⊢
      generalize (if mx'.isSome = true then m else c) = q at k3 ⊢
      split <;> exact .islE k3
    | islNil hcap =>
      obtain ⟨k1, k2, k3⟩ := key none 0 (by cases cap <;> simp [CapR] at hcap ⊢; omega) hcap
      refine ⟨_, k1, ?_⟩
      have e3 : h' = 0 := by
        have : h' * sz = 0 := by simpa using hcs
        rcases Nat.mul_eq_zero.1 this with h | h <;> omega
      have e4 : l = 0 := by omega
      subst e3; subst e4
      simp only [List.drop_nil, List.take_nil, Nat.sub_zero, Option.map_none, ite_self] at k3 ⊢
      have e5 : (if mx'.isSome then m else 0) = 0 := by
        cases mx' with
        | none => rfl
        | some y =>
          have := (bnd_some e0).2
          cases cap <;> simp [CapR] at hcap this ⊢ <;> omega
      rw [e5] at k3 ⊢
      exact .islNil k3
  · simp at h


theorem arr_slice {σ : St} (hK : Rel K σ) {x v : AV} {ad : Addr} (hx : VR K x (.pointer (some ad))) {n sz l h m : Nat} (hm : m ≤ n) (hhm : h ≤ m) (hlh : l ≤ h)
    (hv : cutArr σ n sz l h m x = some v) : VR K v (.slice (some (if m = l then ad else ad.add (l * sz))) (h - l) (m - l)) := by
  cases hx with
  | @ptr i off _ hbd hpa =>
    simp only [cutArr] at hv
    split at hv
    · rename_i hr
      have hroom : ∀ b d, K.mu i = some (b, d) → ∀ j, j < n * sz → Room K.w b (d + off + j) := by
        intro b d hm j hj
        unfold hasRoom at hr
        split at hr
        · rename_i cs hg
          simp at hr
          obtain ⟨b', d', hm', ⟨_, g, hg1, _⟩, hfz⟩ := hK.row hg
          rw [hm] at hm'; simp only [Option.some.injEq, Prod.mk.injEq] at hm'; obtain ⟨rfl, rfl⟩ := hm'
          rw [show d + off + j = d + (off + j) by omega]
          exact ⟨by rw [hg1 (off + j) (by omega)]; rfl, hfz (off + j) (by omega)⟩
        · simp at hr
      split at hv
      · rename_i e; subst e
        simp only [Option.some.injEq] at hv; subst hv
        simp only [Nat.sub_zero]
        refine .sl hbd (fun b d hmu => ?_) hhm rfl (fun b d hmu j hj => hroom b d hmu j (Nat.lt_of_lt_of_le hj (Nat.mul_le_mul_right _ hm)))
        rw [hpa b d hmu]; split
        · rfl
        · simp [Addr.add]
      · split at hv
        · rename_i e1 e2; subst e2
          simp only [Option.some.injEq] at hv; subst hv
          have : h - l = 0 := by omega
          rw [this]; exact .esl
        · rename_i e1 e2
          simp only [Option.some.injEq] at hv; subst hv
          rw [if_neg (fun e => e2 e.symm)]
          refine .sl hbd (fun b d hmu => ?_) (by omega) rfl (fun b d hmu j hj => ?_)
          · rw [hpa b d hmu, addr_add, Nat.add_assoc]
          · have := hroom b d hmu (l * sz + j) (by
              have h1 : (m - l) * sz = m * sz - l * sz := Nat.sub_mul _ _ _
              have h2 : m * sz ≤ n * sz := Nat.mul_le_mul_right _ hm
              omega)
            rw [show d + (off + l * sz) + j = d + off + (l * sz + j) by omega]; exact this
    · simp at hv
  | @iptr f cs off b o g hlt hfree hfm hcell hnr hc hvv =>
    simp only [cutArr] at hv
    split at hv
    · simp only [Option.some.injEq] at hv; subst hv
      have hrow : RowAt K b o cs := ⟨hcell, g, hc, hvv⟩
      have hsub := hrow.sub (off + l * sz) ((h - l) * sz)
      have hpos : ∀ cs' : List AV, (∀ x ∈ cs', x ∈ cs) → b < K.w.heap.size ∧ K.free b ∧ (f = false → ¬ K.fm b ∧ cs'.all AV.cln = true) := fun cs' hsub => ⟨hlt, hfree, fun hf => ⟨(hfm hf).1, by
        have := (hfm hf).2
        rw [List.all_eq_true] at this ⊢
        exact fun x hx => this x (hsub x hx)⟩⟩
      by_cases hml : m = l
      · rw [if_pos hml]
        have e3 : h - l = 0 := by omega
        simp only [e3, Nat.zero_mul, List.take_zero]
        exact (RowAt.nil K b (o + off)).isl rfl (fun hne => absurd rfl hne) (Nat.zero_le _) rfl
      · rw [if_neg hml, addr_add, Nat.add_assoc]
        exact hsub.isl (all_sub hnr _ _) (fun _ => hpos _ fun x hx => List.mem_of_mem_drop (List.mem_of_mem_take hx)) (by omega) rfl
    · simp at hv

theorem sliceArr_sound {σ : St} (hK : Rel K σ) {nt : Nat} {ρ : Env} {a : Act} (hρ : EnvR K nt ρ a) {x v : AV} {vx : Value} (hx : VR K x vx) {lo hi mx : Option Operand} {lo' hi' mx' : Option Arg}
    (hlo : trOpt nt lo = some lo') (hhi : trOpt nt hi = some hi') (hmx : trOpt nt mx = some mx') (hmh : (mx'.isSome && hi'.isNone) = false)
    {t e : TypeId} {n : Nat} (hu : P.underlying t = some (.array n e)) {agg : Bool} {sz : Nat} (hs : shapeOf P e = some (agg, sz))
    (h : sliceArr σ n sz x lo' hi' mx' ρ = some v) : ∃ v', (Instr.sliceAt t vx (lo.map a.eval) (hi.map a.eval) (mx.map a.eval)).run P K.w = .ok v' K.w ∧ VR K v v' := by
  obtain ⟨hsz, _⟩ := run_sizeOf' hs K.w
  unfold sliceArr at h
  simp only [Option.bind_eq_some_iff] at h
  obtain ⟨m, e0, h', e1, l, e2, h⟩ := h
  split at h
  · rename_i hhm
    have hlh : l ≤ h' := by
      cases lo' with
      | none => simp [bnd] at e2; omega
      | some y => exact (bnd_some e2).2
    obtain ⟨hb, hmc⟩ := sliceBounds_sound (P := P) (w := K.w) hρ hlo hhi hmx hmh false (len := n) (capc := n) (Nat.le_refl _) e0 e1 e2
    have hmn : m ≤ n := by
      cases mx' with
      | none => simp [bnd] at e0; omega
      | some y => exact hmc rfl
    have hm' : (if mx'.isSome then m else n) = m := by
      cases mx' with
      | none => simp [bnd] at e0; simp [e0]
      | some y => rfl
    rw [hm'] at hb
    have hpt : ∃ ad, vx = .pointer (some ad) := by
      cases hx <;> simp [cutArr] at h <;> exact ⟨_, rfl⟩
    obtain ⟨ad, rfl⟩ := hpt
    exact ⟨_, by simp only [Instr.sliceAt, Sem.run_bind, run_underlying hu, Result.andThen_ok, Instr.sureAddr, Sem.run_pure, hb, hsz], arr_slice hK hx hmn hhm hlh h⟩
  · simp at h

theorem sliceStr_sound {nt : Nat} {ρ : Env} {a : Act} (hρ : EnvR K nt ρ a) {s : List UInt8} {v : AV} {lo hi : Option Operand} {lo' hi' : Option Arg}
    (hlo : trOpt nt lo = some lo') (hhi : trOpt nt hi = some hi') {t : TypeId} (hu : P.underlying t = some .string)
    (h : sliceStr s lo' hi' ρ = some v) : ∃ v', (Instr.sliceAt t (.string ⟨s.toArray⟩) (lo.map a.eval) (hi.map a.eval) none).run P K.w = .ok v' K.w ∧ VR K v v' := by
  unfold sliceStr at h
  simp only [Option.bind_eq_some_iff, Option.some.injEq] at h
  obtain ⟨h', e1, l, e2, rfl⟩ := h
  have hb := (sliceBounds_sound (P := P) (w := K.w) hρ hlo hhi (mx := none) (mx' := none) rfl (by simp) false (len := s.length) (capc := s.length) (room := s.length) (m := s.length) (Nat.le_refl _) rfl e1 e2).1
  refine ⟨.string ⟨((s.drop l).take (h' - l)).toArray⟩, ?_, .str _⟩
  have hsz : (ByteArray.mk s.toArray).size = s.length := by simp [ByteArray.size]
  simp only [Option.map_none] at hb
  simp only [Instr.sliceAt, Sem.run_bind, run_underlying hu, Result.andThen_ok, Instr.slice, Option.isSome_none, Bool.false_eq_true, if_false, hsz, hb, Sem.run_pure]
  congr 2
  apply ByteArray.ext
  simp [ByteArray.data_extract]

end
end Go.Vm
