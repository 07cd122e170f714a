/-
  THE GENERIC LAYER 'Vm', part V: from 'the law answers true' to the row's contract.
-/
import Derived.Test.YtkhalpmmdlppkaaVmU
namespace Go.Vm
open Classical

def shapes (P : Program) (ts : List TypeId) : Option (List Sh) := ts.mapM (Sh.of P 12)

section
variable {H : Type} {enc : TypeId × Value → H} {P : Program}

/-- 'post_of_same', of whose frozen cells only those are asked that were there. -/
theorem post_of_kept {f : Func} {s : ChangeSpec} {apart fresh handsOn again : Bool} {W W' : World} {args : Array Value} {v : Value} {ds gs : List (DataW H)} {before pa pv : List MemPlace}
    (hW : DataW.Whole enc P f.params.toList s.vars apart W args.toList ds gs before)
    (hres : ∀ (b : Nat) (sp : Nat → Bool) (hd : Bool), DataW.TrodAll enc P W' b sp hd f.resultTypes.toList (v.resultList f.resultTypes.size) (s.fn H (ds ++ gs)).results [])
    (hargs : ∀ sp : Nat → Bool, (∀ p ∈ before, sp p.block = true) → DataW.TrodAll enc P W' 0 sp true f.params.toList args.toList (s.fn H (ds ++ gs)).args pa)
    (hvars : ∀ sp : Nat → Bool, (∀ p ∈ before, sp p.block = true) → DataW.TrodVars enc P W' sp s.vars (s.fn H (ds ++ gs)).vars pv)
    (hps : before = pa ++ pv) (hk : W.keptBut W' (· ∈ before)) (hfz : ∀ b o, b < W.heap.size → W'.frozen? ⟨b, o, none⟩ = W.frozen? ⟨b, o, none⟩)
    (hok : ∀ (j : Nat) (t : TypeId) (r : Value), f.resultTypes[j]? = some t → (v.resultList f.resultTypes.size)[j]? = some r → Value.okWide P W' .any 0 t r) :
    s.post enc P f apart fresh handsOn again W args v W' := by
  have hlt : ∀ p ∈ before, p.block < W.heap.size := fun p hp => hW.lt p hp
  have hold : ∀ p ∈ before, (fun b => decide (b < W.heap.size)) p.block = true := fun p hp => by simpa using hlt p hp
  refine ⟨ds, gs, before, [], pa, pv, hW, hres _ _ _, hargs _ hold, hvars _ hold, World.keptBut_mono (fun p hp => ⟨hp, ?_⟩) hk, fun _ => ?_⟩
  · rw [hps, List.mem_append] at hp
    exact Or.inr hp
  · obtain ⟨_, _, _, _, _, hz, hn⟩ := hW
    refine ⟨hok, _, _, ([] ++ pa) ++ pv, ⟨[] ++ pa, pv, ChangeShapes.trodAll_append (hargs _ (fun _ _ => rfl)) (hres _ _ _), hvars _ (fun _ _ => rfl), rfl, ?_, ?_⟩, ?_⟩
    · intro b off hp
      have hp' : MemPlace.cell b off ∈ before := by rw [hps]; simpa using hp
      rw [hfz b off (hlt _ hp')]
      exact hz b off hp'
    · intro ha
      have := hn ha
      rw [hps] at this
      simpa using this
    · intro p hp _
      rw [hps]
      simpa using hp

theorem trodAll_stays {W W' : World} (hl : laidOutB P = true) {sp : Nat → Bool} : ∀ {ts : List TypeId} {vs : List Value} {ds : List (DataW H)} {ps : List MemPlace},
    ts.all (fun t => P.readableRec t && decide (t < P.types.size)) = true → DataW.TrodAll enc P W 0 (fun _ => true) true ts vs ds ps → (∀ p ∈ ps, W.sameAt W' p) → (∀ p ∈ ps, sp p.block = true) → DataW.TrodAll enc P W' 0 sp true ts vs ds ps
  | [], [], [], _, _, h, _, _ => h
  | t :: ts, v :: vs, d :: ds, ps, hts, ⟨p, q, h1, h2, e⟩, hsame, hsp => by
    simp only [List.all_cons, Bool.and_eq_true, decide_eq_true_eq] at hts
    obtain ⟨⟨a1, a2⟩, a3⟩ := hts
    refine ⟨p, q, WideElems.Trod_stays hl a1 a2 h1 (fun x hx => hsame x ?_) (fun x hx => hsp x ?_), trodAll_stays hl (by simpa using a3) h2 (fun x hx => hsame x ?_) (fun x hx => hsp x ?_), e⟩ <;> rw [e] <;> simp [hx]
  | [], _ :: _, _, _, _, h, _, _ => h.elim
  | [], [], _ :: _, _, _, h, _, _ => h.elim
  | _ :: _, [], _, _, _, h, _, _ => h.elim
  | _ :: _, _ :: _, [], _, _, h, _, _ => h.elim

theorem told_args {W : World} {base : Nat} : ∀ {ts : List TypeId} {shs : List Sh} {vs : List Value} {ds : List (DataW H)} {ps : List MemPlace}, shapes P ts = some shs →
    (∀ (j : Nat) t v, ts[j]? = some t → vs[j]? = some v → Value.okWide P W .any base t v) → DataW.TrodAll enc P W 0 (fun _ => true) true ts vs ds ps →
    (DataW.weightsEach P ts ds).all (· ≤ reachBytes) = true → ds.length = ts.length ∧ ∃ as, ArgsOk shs as ∧ VRs (plainCtx P W) as vs
  | [], shs, [], [], _, h1, _, _, _ => by
    simp only [shapes, List.mapM_nil, Option.pure_def, Option.some.injEq] at h1; subst h1
    exact ⟨rfl, [], rfl, VRs.nil _⟩
  | t :: ts, shs, v :: vs, d :: ds, ps, h1, h2, ⟨p, q, k1, k2, e⟩, h4 => by
    simp only [shapes, List.mapM_cons, Option.bind_eq_bind, Option.bind_eq_some_iff, Option.pure_def, Option.some.injEq] at h1
    obtain ⟨sh, hsh, shs', hshs, rfl⟩ := h1
    simp only [weightsEach_cons, List.all_append, Bool.and_eq_true] at h4
    obtain ⟨cs, c1, c2⟩ := told_arg (P := P) hsh (h2 0 t v rfl rfl) k1 (by simpa using h4.1)
    obtain ⟨hlen, as, a1, a2⟩ := told_args (ts := ts) (shs := shs') hshs (fun j t v hj hv => h2 (j + 1) t v (by simpa using hj) (by simpa using hv)) k2 h4.2
    exact ⟨by simp [hlen], argOf sh cs :: as, ⟨cs, as, c1, a1, rfl⟩, VRs.cons c2 a2⟩
  | [], _, _ :: _, _, _, _, _, h, _ => h.elim
  | [], _, [], _ :: _, _, _, _, h, _ => h.elim
  | _ :: _, _, [], _, _, _, _, h, _ => h.elim
  | _ :: _, _, _ :: _, [], _, _, _, h, _ => h.elim

/-- What the row's spec says: true, and the arguments read as they did. -/
def SaysTrue (n : Nat) (s : ChangeSpec) : Prop := s.vars = [] ∧ ∀ (H : Type) (ds : List (DataW H)), ds.length = n → (s.fn H ds).results = [.lit (.bool true)] ∧ (s.fn H ds).args = ds ∧ (s.fn H ds).vars = []

theorem contract {T : Table} (hsound : SoundE P (ev T)) {f : FuncId} {fn : Func} {s : ChangeSpec} {apart fresh handsOn again : Bool} (hl : laidOutB P = true)
    (hpar : fn.params.toList.all (fun t => P.readableRec t && decide (t < P.types.size)) = true) {bt : TypeId} (hres : fn.resultTypes = #[bt]) (hb : P.underlying bt = some .bool)
    {shs : List Sh} (hsh : shapes P fn.params.toList = some shs) (hs : SaysTrue fn.params.size s)
    (W : World) (base : Nat) (args : Array Value) (ds gs : List (DataW H)) (before : List MemPlace)
    (law : ∀ as, ArgsOk shs as → ev T f as emptySt = some (.bool true, emptySt))
    (hval : ∀ (j : Nat) t v, fn.params[j]? = some t → args[j]? = some v → Value.okWide P W .any base t v)
    (hW : DataW.Whole enc P fn.params.toList s.vars apart W args.toList ds gs before)
    (hsz : (DataW.weightsEach P (fn.params.toList ++ s.plain.varTypes P) (ds ++ gs)).all (· ≤ reachBytes) = true) :
    Calls P f args W fun e W' => ∃ v, e = .returned v ∧ s.post enc P fn apart fresh handsOn again W args v W' := by
  have hW' := hW
  obtain ⟨p, q, hA, hV, hbef, _, _⟩ := hW
  rw [hs.1] at hV
  have hgs : gs = [] ∧ q = [] := by
    cases gs with
    | nil => exact ⟨rfl, hV⟩
    | cons => exact hV.elim
  obtain ⟨rfl, rfl⟩ := hgs
  have hvt : s.plain.varTypes P = [] := by simp [ChangeSpec.plain, DataSpec.varTypes, hs.1]
  rw [hvt, List.append_nil, List.append_nil] at hsz
  obtain ⟨hlen, as, a1, a2⟩ := told_args hsh (fun j t v hj hv => hval j t v (by simpa using hj) (by simpa using hv)) hA hsz
  have hl' := law as a1
  obtain ⟨_, hcall⟩ := hsound.fn f as emptySt _ _ hl'
  have := hcall (plainCtx P W) args.toList rfl (plain_rel P W) a2
  rw [Array.toArray_toList] at this
  refine this.mono ?_
  rintro e w' ⟨v, K', rfl, rfl, hst, _, hvr⟩
  cases hvr
  have hfree : ∀ b, (plainCtx P W).free b := fun b i d h => by simp [plainCtx] at h
  have hsame : ∀ b, b < W.heap.size → K'.w.heap[b]? = W.heap[b]? := fun b hb' => hst.ext.same b hb' (hfree b)
  obtain ⟨r1, r2, r3⟩ := hs.2 H (ds ++ []) (by simpa using hlen)
  have hlt : ∀ x ∈ before, x.block < W.heap.size := fun x hx => hW'.lt x hx
  have hsamep : ∀ x ∈ before, W.sameAt K'.w x := by
    intro x hx
    have hx' := hlt x hx
    cases x with
    | cell b o => exact cell?_congr (hsame b hx')
    | map b => exact hsame b hx'
  refine ⟨_, rfl, post_of_kept (pa := before) (pv := []) hW' (fun b sp hd => ?_) (fun sp hsp => ?_) (fun sp _ => ?_) (by simp) ⟨hst.ext.out.1, hst.ext.out.2, fun i hi => ?_⟩ (fun b o hb' => frozen?_congr (hsame b hb')) ?_⟩
  · rw [r1, hres]
    exact ⟨[], [], RowKit.shut_bool hb true, rfl, rfl⟩
  · rw [r2, List.append_nil]
    rw [List.append_nil] at hbef
    rw [hbef]
    exact trodAll_stays hl hpar hA (fun x hx => hsamep x (hbef ▸ hx)) (fun x hx => hsp x (hbef ▸ hx))
  · rw [r3, hs.1]; rfl
  · rw [hsame i hi]
    split <;> simp_all
  · exact RowKit.ok_one hres rfl (RowKit.okWide_bool_mk hb true)
end
end Go.Vm
