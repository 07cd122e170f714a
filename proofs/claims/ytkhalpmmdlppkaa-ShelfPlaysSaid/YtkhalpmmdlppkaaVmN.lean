/-
  THE GENERIC LAYER 'Vm', part N: regions whose order is open.
-/
import Derived.Test.YtkhalpmmdlppkaaVmM
namespace Go.Vm

/-! ### an instruction sees its own slots alone -/

theorem bnd_congr {ρ ρ' : Env} {x : Option Arg} (h : ∀ y ∈ optL x, y.get ρ = y.get ρ') (m d : Nat) : bnd ρ x m d = bnd ρ' x m d := by
  cases x with
  | none => rfl
  | some y => simp only [bnd, h y (by simp [optL])]

theorem fill_congr {ρ ρ' : Env} : ∀ (ps : List (Nat × Nat × Arg)) (cs : List AV), (∀ p ∈ ps, p.2.2.get ρ = p.2.2.get ρ') → fill ρ cs ps = fill ρ' cs ps
  | [], _, _ => rfl
  | (off, n, x) :: ps, cs, h => by
    have hx : x.get ρ = x.get ρ' := h (off, n, x) (by simp)
    simp only [fill, hx]
    split
    · exact fill_congr ps _ fun p hp => h p (by simp [hp])
    · rfl

theorem map_get_congr {ρ ρ' : Env} {as : List Arg} (h : ∀ y ∈ as, y.get ρ = y.get ρ') : as.map (Arg.get ρ) = as.map (Arg.get ρ') := List.map_congr_left h

theorem ev_congr {E : CallH} {ρ ρ' : Env} (σ : St) {i : Ins} (h : ∀ y ∈ i.args, y.get ρ = y.get ρ') : i.ev E ρ σ = i.ev E ρ' σ := by
  cases i <;> simp only [Ins.args, List.mem_cons, List.not_mem_nil, or_false, forall_eq_or_imp, forall_eq, List.mem_append, List.mem_map] at h
  case build z ps => simp only [Ins.ev, fill_congr ps z fun p hp => h _ ⟨p, hp, rfl⟩]
  case buildSl n sz z ps => simp only [Ins.ev, fill_congr ps z fun p hp => h _ ⟨p, hp, rfl⟩]
  case mkFunc fn a b => simp only [Ins.ev, map_get_congr (fun y hy => h y (.inl hy)), map_get_congr (as := b) (fun y hy => h y (.inr hy))]
  case slStr x lo hi =>
    obtain ⟨h1, h2⟩ := h
    simp only [Ins.ev, h1, sliceStr, bnd_congr (fun y hy => h2 y (.inl hy)), bnd_congr (x := hi) (fun y hy => h2 y (.inr hy))]
  case slSl sz x lo hi mx =>
    obtain ⟨h1, h2⟩ := h
    have e1 := fun m d => bnd_congr (x := lo) (fun y hy => h2 y (.inl hy)) m d
    have e2 := fun m d => bnd_congr (x := hi) (fun y hy => h2 y (.inr (.inl hy))) m d
    have e3 := fun m d => bnd_congr (x := mx) (fun y hy => h2 y (.inr (.inr hy))) m d
    simp only [Ins.ev, h1, sliceSl, e1, e2, e3]
  case slArr n sz x lo hi mx =>
    obtain ⟨h1, h2⟩ := h
    have e1 := fun m d => bnd_congr (x := lo) (fun y hy => h2 y (.inl hy)) m d
    have e2 := fun m d => bnd_congr (x := hi) (fun y hy => h2 y (.inr (.inl hy))) m d
    have e3 := fun m d => bnd_congr (x := mx) (fun y hy => h2 y (.inr (.inr hy))) m d
    simp only [Ins.ev, h1, sliceArr, e1, e2, e3]
  case minmax mx as =>
    cases as with
    | nil => rfl
    | cons x rest => simp only [Ins.ev, h x (by simp), map_get_congr (as := rest) fun y hy => h y (by simp [hy])]
  case call f as => simp only [Ins.ev, map_get_congr h]
  case callV x as => simp only [Ins.ev, h.1, map_get_congr h.2]
  case invoke tbl x as => simp only [Ins.ev, h.1, map_get_congr h.2]
  all_goals first
    | rfl
    | simp only [Ins.ev, h]
    | (obtain ⟨h1, h2⟩ := h; simp only [Ins.ev, h1, h2])
    | (obtain ⟨h1, h2, h3⟩ := h; simp only [Ins.ev, h1, h2, h3])

/-- What a still one makes. -/
def Ins.sv (ρ : Env) : Ins → Option AV
  | .mv x => some (x.get ρ)
  | .convId x => match x.get ρ with | .str s => some (.str s) | _ => none
  | .pick c a b => match c.get ρ with | .bool t => some (if t then a.get ρ else b.get ρ) | _ => none
  | .build zero parts => (fill ρ zero parts).map AV.agg
  | .nilCk x => match x.get ρ with | .ptr i o => some (.ptr i o) | .iptr f cs o => some (.iptr f cs o) | .iface t v => some (.iface t v) | .func (.func f) a b => some (.func (.func f) a b) | _ => none
  | .bin op x y => binOp op (x.get ρ) (y.get ρ)
  | .eq neg t x y => (eqv t (x.get ρ) (y.get ρ)).map fun b => .bool (if neg then !b else b)
  | .un op x => unOp op (x.get ρ)
  | .convInt k x => match x.get ρ with | .int _ n => some (.int k (k.wrap n)) | _ => none
  | .arrOf n sz x => match x.get ρ with
    | .sl i off m _ _ => if n ≤ m then some (.ptr i off) else none
    | .isl f cs m _ => if n ≤ m ∧ n * sz ≤ cs.length ∧ 0 < n * sz then some (.iptr f cs 0) else none
    | _ => none
  | .mkIface t x => some (.iface t (x.get ρ))
  | .mkFunc fn first capt => some (.func fn (first.map (Arg.get ρ)) (capt.map (Arg.get ρ)))
  | .slStr x lo hi => match x.get ρ with | .str s => sliceStr s lo hi ρ | _ => none
  | .slSl sz x lo hi mx => sliceSl sz (x.get ρ) lo hi mx ρ
  | .faddr off x => addOff off (x.get ρ)
  | .fld off agg n x => match x.get ρ with | .agg cs => part agg n off cs | _ => none
  | .iaArr n sz x i => match asNat (i.get ρ) with
    | some k => if k < n then addOff (k * sz) (x.get ρ) else none
    | none => none
  | .iaSl sz x i => match asNat (i.get ρ) with
    | some k => elemPtr sz k (x.get ρ)
    | none => none
  | .ixArr n sz agg x i => match asNat (i.get ρ), x.get ρ with
    | some k, .agg cs => if k < n then part agg sz (k * sz) cs else none
    | _, _ => none
  | .ixStr x i => match asNat (i.get ρ), x.get ρ with
    | some k, .str s => (s[k]?).map fun b => .int .u8 b.toNat
    | _, _ => none
  | .ext i x => match x.get ρ with | .tup vs => vs[i]? | _ => none
  | .konst n => some (.int .i64 n)
  | .capOf x => match x.get ρ with
    | .nilsl => some (.int .i64 0)
    | .sl _ _ _ (.ex c) _ => some (.int .i64 c)
    | .isl _ _ _ (some c) => some (.int .i64 c)
    | _ => none
  | .minmax mx args => match args with
    | [] => none
    | x :: rest => minmaxL mx (x.get ρ) (rest.map (Arg.get ρ))
  | .tassert t ok zero x => match x.get ρ with
    | .iface u v => if u = t then some (if ok then .tup [v, .bool true] else v) else if ok then some (.tup [zero, .bool false]) else none
    | .nilIface => if ok then some (.tup [zero, .bool false]) else none
    | _ => none
  | _ => none

theorem ev_sv {E : CallH} {ρ : Env} {σ : St} {i : Ins} (hs : i.still = true) : i.ev E ρ σ = ret1 σ (i.sv ρ) := by
  cases i <;> simp only [Ins.still, Bool.false_eq_true] at hs <;> simp only [Ins.ev, Ins.sv]
  all_goals first
    | rfl
    | (unfold ret1; rw [Option.map_map]; rfl)
    | (unfold ret1; grind)

theorem still_ev {E : CallH} {ρ : Env} {σ σ1 : St} {i : Ins} {v : AV} (hs : i.still = true) (h : i.ev E ρ σ = some (v, σ1)) : σ1 = σ ∧ ∀ s, i.ev E ρ s = some (v, s) := by
  rw [ev_sv hs] at h
  obtain ⟨h1, rfl⟩ := ret1_some h
  exact ⟨rfl, fun s => by rw [ev_sv hs, h1]; rfl⟩

end Go.Vm
