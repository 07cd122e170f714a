/-
  THE GENERIC LAYER 'Vm', part X: objects: what an object holds, and calls that turn one.
-/
import Derived.Test.YtkhalpmmdlppkaaVmW
namespace Go.Vm
open Classical

/-- A cell with what lies behind it. -/
inductive RC where
  | v (x : AV)
  | sl (cs : List AV) (off len : Nat) (cap : Cap) (sz : Nat)
  | mp (ks vs : List AV)

def RC.cell (o v k : Nat) : RC → AV
  | .v x => x
  | .sl _ off len cap sz => .sl ⟨o, k + 1, v⟩ off len cap sz
  | .mp _ _ => .map ⟨o, k + 1, v⟩
def RC.blk : RC → Option Blk
  | .v _ => none
  | .sl cs _ _ _ _ => some (.cells cs)
  | .mp ks vs => some (.map ks vs)
def RC.fine : RC → Bool
  | .v x => (refId x).isNone
  | _ => true

def rcCells (o v : Nat) : Nat → List RC → List AV
  | _, [] => []
  | k, c :: rs => c.cell o v k :: rcCells o v (k + 1) rs
theorem rcCells_get (o v : Nat) : ∀ (rs : List RC) (k m : Nat), (rcCells o v k rs)[m]? = (rs[m]?).map (RC.cell o v (k + m))
  | [], k, m => by simp [rcCells]
  | c :: rs, k, 0 => by simp [rcCells]
  | c :: rs, k, m + 1 => by
    simp only [rcCells, List.getElem?_cons_succ]
    rw [rcCells_get o v rs (k + 1) m, show k + 1 + m = k + (m + 1) by omega]
theorem rcCells_len (o v : Nat) : ∀ (rs : List RC) (k : Nat), (rcCells o v k rs).length = rs.length
  | [], k => rfl
  | c :: rs, k => by simp [rcCells, rcCells_len o v rs (k + 1)]

/-- What object o is. -/
structure Obj (σ : St) (o : Nat) (rs : List RC) : Prop where
  lt : o < σ.next
  main : σ.heap ⟨o, 0, 0⟩ = some (.cells (rcCells o (σ.ver o) 0 rs))
  blks : ∀ k c b, rs[k]? = some c → c.blk = some b → σ.heap ⟨o, k + 1, σ.ver o⟩ = some b

/-- All but o is as it was. -/
structure Kept (σ σ' : St) (o : Nat) : Prop where
  next : σ'.next = σ.next
  heap : ∀ i, i.o ≠ o → σ'.heap i = σ.heap i
  ver : ∀ p, p ≠ o → σ'.ver p = σ.ver p

theorem Kept.refl (σ : St) (o : Nat) : Kept σ σ o := ⟨rfl, fun _ _ => rfl, fun _ _ => rfl⟩
theorem Kept.trans {σ σ' σ'' : St} {o : Nat} (h : Kept σ σ' o) (h' : Kept σ' σ'' o) : Kept σ σ'' o :=
  ⟨h'.next.trans h.next, fun i hi => (h'.heap i hi).trans (h.heap i hi), fun p hp => (h'.ver p hp).trans (h.ver p hp)⟩
theorem Kept.obj {σ σ' : St} {o p : Nat} {rs : List RC} (h : Kept σ σ' o) (hp : p ≠ o) (ho : Obj σ p rs) : Obj σ' p rs where
  lt := by rw [h.next]; exact ho.lt
  main := by rw [h.heap _ hp, h.ver _ hp]; exact ho.main
  blks k c b h1 h2 := by rw [h.heap _ hp, h.ver _ hp]; exact ho.blks k c b h1 h2
theorem Kept.get {σ σ' : St} {o : Nat} (h : Kept σ σ' o) {i : Id} (hi : i.o ≠ o) : σ'.get i = σ.get i := by simp only [St.get, h.heap i hi]

theorem Obj.get {σ : St} {o : Nat} {rs : List RC} (h : Obj σ o rs) : σ.get ⟨o, 0, 0⟩ = some (rcCells o (σ.ver o) 0 rs) := by simp [St.get, h.main]
theorem Obj.sl {σ : St} {o : Nat} {rs : List RC} (h : Obj σ o rs) {k : Nat} {cs : List AV} {off len sz : Nat} {cap : Cap} (hk : rs[k]? = some (.sl cs off len cap sz)) : σ.get ⟨o, k + 1, σ.ver o⟩ = some cs := by
  simp [St.get, h.blks k _ _ hk rfl]

/-- The same object, the others out of sight. -/
theorem Obj.only {σ : St} {o : Nat} {rs : List RC} (h : Obj σ o rs) {O : List Nat} (ho : o ∈ O) : Obj (σ.only O) o rs where
  lt := h.lt
  main := by simp only [St.only, ho, if_true]; exact h.main
  blks k c b h1 h2 := by simp only [St.only, ho, if_true]; exact h.blks k c b h1 h2

/-- How cells and blocks behind a body are an object. -/
inductive Conv (σ1 : St) : List AV → List RC → Prop
  | nil : Conv σ1 [] []
  | v {x : AV} {cs : List AV} {rs : List RC} (h : refId x = none) (t : Conv σ1 cs rs) : Conv σ1 (x :: cs) (.v x :: rs)
  | sl {i : Id} {off len sz : Nat} {cap : Cap} {b : List AV} {cs : List AV} {rs : List RC} (h : σ1.get i = some b) (t : Conv σ1 cs rs) : Conv σ1 (.sl i off len cap sz :: cs) (.sl b off len cap sz :: rs)
  | mp {i : Id} {ks vs : List AV} {cs : List AV} {rs : List RC} (h : σ1.heap i = some (.map ks vs)) (t : Conv σ1 cs rs) : Conv σ1 (.map i :: cs) (.mp ks vs :: rs)

theorem get_heap {σ : St} {i : Id} {cs : List AV} (h : σ.get i = some cs) : σ.heap i = some (.cells cs) := by
  unfold St.get at h
  split at h <;> simp_all

theorem Conv.cells {σ1 : St} (o v : Nat) : ∀ {cs : List AV} {rs : List RC} (k : Nat), Conv σ1 cs rs → reCells o v k cs = rcCells o v k rs
  | _, _, k, .nil => rfl
  | _, _, k, .v (x := x) h t => by
    simp only [reCells, rcCells, t.cells o v (k + 1), RC.cell]
    congr 1
    cases x <;> first | rfl | simp [refId] at h
  | _, _, k, .sl h t => by simp only [reCells, rcCells, t.cells o v (k + 1), RC.cell, reCell]
  | _, _, k, .mp h t => by simp only [reCells, rcCells, t.cells o v (k + 1), RC.cell, reCell]

theorem own_small (σ1 : St) : ∀ (cs : List AV) (k q : Nat), q ≤ k → (ownBlks σ1 k cs).lookup q = none
  | [], k, q, h => rfl
  | c :: cs, k, q, h => by
    unfold ownBlks
    split
    · rw [List.lookup_cons]
      have : (q == k + 1) = false := by simp; omega
      rw [this]
      exact own_small σ1 cs (k + 1) q (by omega)
    · exact own_small σ1 cs (k + 1) q (by omega)

theorem Conv.blks {σ1 : St} : ∀ {cs : List AV} {rs : List RC} (k : Nat), Conv σ1 cs rs → ∀ m c b, rs[m]? = some c → c.blk = some b → (ownBlks σ1 k cs).lookup (k + m + 1) = some b
  | _, _, k, .nil, m, c, b, h1, _ => by simp at h1
  | _, _, k, .v (x := x) h t, 0, c, b, h1, h2 => by
    simp only [List.getElem?_cons_zero, Option.some.injEq] at h1; subst h1; simp [RC.blk] at h2
  | _, _, k, .v (x := x) h t, m + 1, c, b, h1, h2 => by
    have := t.blks (k + 1) m c b (by simpa using h1) h2
    unfold ownBlks
    rw [h]
    simp only [Option.bind_none]
    rw [show k + (m + 1) + 1 = k + 1 + m + 1 by omega]; exact this
  | _, _, k, .sl h t, 0, c, b, h1, h2 => by
    simp only [List.getElem?_cons_zero, Option.some.injEq] at h1; subst h1
    simp only [RC.blk, Option.some.injEq] at h2; subst h2
    simp [ownBlks, refId, get_heap h]
  | _, _, k, .sl h t, m + 1, c, b, h1, h2 => by
    have := t.blks (k + 1) m c b (by simpa using h1) h2
    unfold ownBlks
    simp only [refId, Option.bind_some, get_heap h, List.lookup_cons]
    rw [show (k + (m + 1) + 1 == k + 1) = false by simp]
    rw [show k + (m + 1) + 1 = k + 1 + m + 1 by omega]; exact this
  | _, _, k, .mp h t, 0, c, b, h1, h2 => by
    simp only [List.getElem?_cons_zero, Option.some.injEq] at h1; subst h1
    simp only [RC.blk, Option.some.injEq] at h2; subst h2
    simp [ownBlks, refId, h]
  | _, _, k, .mp h t, m + 1, c, b, h1, h2 => by
    have := t.blks (k + 1) m c b (by simpa using h1) h2
    unfold ownBlks
    simp only [refId, Option.bind_some, h, List.lookup_cons]
    rw [show (k + (m + 1) + 1 == k + 1) = false by simp]
    rw [show k + (m + 1) + 1 = k + 1 + m + 1 by omega]; exact this

/-- The state behind a call that turned object o. -/
def St.lay (σ : St) (o v : Nat) (σ1 : St) (cs : List AV) : St := σ.putObj o v ((0, .cells (reCells o v 0 cs)) :: ownBlks σ1 0 cs)

theorem lay_obj {σ σ1 : St} {o v : Nat} {cs : List AV} {rs : List RC} (hc : Conv σ1 cs rs) {σ' : St} (hh : σ'.heap = (σ.lay o v σ1 cs).heap) (hv : σ'.ver o = v) (ho : o < σ'.next) : Obj σ' o rs where
  lt := ho
  main := by
    rw [hh, hv]
    simp [St.lay, St.putObj, hc.cells o v 0]
  blks k c b h1 h2 := by
    rw [hh, hv]
    have := hc.blks 0 k c b h1 h2
    simp only [St.lay, St.putObj, if_true]
    rw [if_pos (by simp)]
    rw [List.lookup_cons]
    rw [show (k + 1 == 0) = false by simp]
    rw [show 0 + k + 1 = k + 1 by omega] at this
    exact this

section
variable {T : Table} {f : FuncId} {nt np : Nat} {code : C} {res : List RV}

theorem pure_ev (hf : T f = some ⟨nt, np, code, res, .pure⟩) {args as : List AV} {σ : St} {r : AV} (hs : args.mapM (snap σ 7) = some as) (hp : pureOf (run T) ⟨nt, np, code, res, .pure⟩ as = some r) : ev T f args σ = some (r, σ) := by
  rw [ev_pure hf, hs, Option.bind_some, hp]; rfl
theorem ins_nil (σ : St) (O : List Nat) : ([] : List AV).mapM (argIn σ O) = some [] := rfl
theorem ins_cons {σ : St} {O : List Nat} {x y : AV} {xs ys : List AV} (h : argIn σ O x = some y) (t : xs.mapM (argIn σ O) = some ys) : (x :: xs).mapM (argIn σ O) = some (y :: ys) := by
  rw [List.mapM_cons, h, t]; rfl
theorem snaps_nil (σ : St) : ([] : List AV).mapM (snap σ 7) = some [] := rfl
theorem snaps_cons {σ : St} {x y : AV} {xs ys : List AV} (h : snap σ 7 x = some y) (t : xs.mapM (snap σ 7) = some ys) : (x :: xs).mapM (snap σ 7) = some (y :: ys) := by
  rw [List.mapM_cons, h, t]; rfl

/-- A call that turns one object, and gives something of its own. -/
theorem ev_mut (hf : T f = some ⟨nt, np, code, res, .mut [(0, [])] none⟩) {o : Nat} {as ys : List AV} {σ σ1 : St} (ho : o < σ.next) (hin : as.mapM (argIn σ [o]) = some ys) {r r' : AV} {cs : List AV} {rs : List RC}
    (hrun : bodyOf (run T) ⟨nt, np, code, res, .mut [(0, [])] none⟩ (.ptr ⟨o, 0, 0⟩ 0 :: ys) (σ.only [o]) = some (r, σ1))
    (hc : σ1.get ⟨o, 0, 0⟩ = some cs) (hok : cs.all (okCell σ1 (okObj [o])) = true) (hnd : idsNodup (⟨o, 0, 0⟩ :: cs.filterMap refId) = true)
    (hr : frz σ1 σ.next (⟨o, 0, 0⟩ :: cs.filterMap refId) 7 (okObj [o]) r = some r') (hcv : Conv σ1 cs rs) :
    ∃ σ', ev T f (.ptr ⟨o, 0, 0⟩ 0 :: as) σ = some (r', σ') ∧ Obj σ' o rs ∧ Kept σ σ' o := by
  have hfo : footOf σ (.ptr ⟨o, 0, 0⟩ 0 :: as) [(0, [])] = some [o] := by simp [footOf, walkTo]
  have hin' : (AV.ptr ⟨o, 0, 0⟩ 0 :: as).mapM (argIn σ [o]) = some (.ptr ⟨o, 0, 0⟩ 0 :: ys) := by
    rw [List.mapM_cons, hin]; simp [argIn]
  refine ⟨{ ((σ.lay o (σ.ver o + 1) σ1 cs).bump [o]) with next := σ.next }, ?_, lay_obj (σ := σ) (v := σ.ver o + 1) hcv rfl (by simp [St.bump, St.lay, St.putObj]) ho, ⟨rfl, fun i hi => ?_, fun p hp => ?_⟩⟩
  · simp only [ev, callOf, fnOf, hf, mutOf, hfo, hin', hrun, Option.bind_some, newOf, objsOf, List.map_cons, List.map_nil, List.append_nil, layAll, layObj, hc, hok, if_true, Option.map_some, resOf]
    rw [if_pos ⟨by simpa using hnd, by simp [natsNodup], by simp [ho], by simp⟩]
    rw [show depth = 7 from rfl]
    rw [hr]
    simp [St.putAll, St.lay, St.bump]
  · simp [St.bump, St.lay, St.putObj, hi]
  · simp [St.bump, St.lay, St.putObj, hp]

/-- A call that makes an object: its pointer, and something besides. -/
theorem ev_new (hf : T f = some ⟨nt, np, code, res, .mut [] (some (some 0))⟩) {args ys : List AV} {σ σ1 : St} {i : Id} (hi : σ.next ≤ i.o) (hin : args.mapM (argIn σ []) = some ys) {r r' : AV} {cs : List AV} {rs : List RC}
    (hrun : bodyOf (run T) ⟨nt, np, code, res, .mut [] (some (some 0))⟩ ys (σ.only []) = some (.tup [.ptr i 0, r], σ1))
    (hc : σ1.get i = some cs) (hok : cs.all (okCell σ1 (okObj [])) = true) (hnd : idsNodup (i :: cs.filterMap refId) = true)
    (hr : frz σ1 σ.next (i :: cs.filterMap refId) 7 (okObj []) r = some r') (hcv : Conv σ1 cs rs) :
    ∃ σ', ev T f args σ = some (.tup [.ptr ⟨σ.next, 0, 0⟩ 0, r'], σ') ∧ Obj σ' σ.next rs ∧ σ'.next = σ.next + 1 ∧ (∀ i, i.o ≠ σ.next → σ'.heap i = σ.heap i) ∧ σ'.ver = σ.ver := by
  have hfo : footOf σ args [] = some [] := rfl
  refine ⟨{ ((σ.lay σ.next (σ.ver σ.next) σ1 cs).bump []) with next := σ.next + 1 }, ?_, lay_obj (σ := σ) (v := σ.ver σ.next) hcv rfl (by simp [St.bump, St.lay, St.putObj]) (by simp), rfl, fun i hi => ?_, ?_⟩
  · simp only [ev, callOf, fnOf, hf, mutOf, hfo, hin, hrun, Option.bind_some, newOf, resAt, List.getElem?_cons_zero, objsOf, List.map_nil, List.nil_append, layAll, layObj, hc, hok, if_true, Option.map_some, resOf]
    rw [if_pos ⟨by simpa using hnd, by simp [natsNodup], by simp, by simpa using hi⟩]
    rw [show depth = 7 from rfl]
    simp [List.zipIdx, hr, newPtr, St.putAll, St.lay, St.bump]
  · simp [St.bump, St.lay, St.putObj, hi]
  · funext p; simp [St.bump, St.lay, St.putObj]
end
end Go.Vm
