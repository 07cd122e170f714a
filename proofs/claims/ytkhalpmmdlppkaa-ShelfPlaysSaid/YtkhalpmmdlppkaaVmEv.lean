/-
  THE GENERIC LAYER 'Vm', part Ev: a run that the kernel reckons: slots as a list, blocks as a list; it is the run.
-/
import Derived.Test.YtkhalpmmdlppkaaVmRk
namespace Go.Vm
open Classical

/-! ### blocks, the newest first -/

def nthA : List AV → Nat → AV
  | [], _ => .tup []
  | v :: _, 0 => v
  | _ :: l, k + 1 => nthA l k

/-- A block: a loop's slots as a list; a long row as its first cells, and so many times one cell behind them. -/
inductive HB where
  | b (x : Blk)
  | rl (pre : List AV) (m : Nat) (z : AV)
  | lp (nt : Nat) (st : LoopState) (pd : Option Ex) (r : List AV) (ps : List Nat) (as body : C)
def HB.toB : HB → Blk
  | .b x => x
  | .rl pre m z => .cells (pre ++ List.replicate m z)
  | .lp nt st pd r ps as body => .loop nt st pd (nthA r) ps as body

structure HS where
  n : Nat
  l : List (Option HB)

def nthB : List (Option HB) → Nat → Option HB
  | [], _ => none
  | b :: _, 0 => b
  | _ :: l, k + 1 => nthB l k
def setB : List (Option HB) → Nat → Option HB → List (Option HB)
  | [], _, _ => []
  | _ :: l, 0, x => x :: l
  | b :: l, k + 1, x => b :: setB l k x

theorem nth_setB {b : HB} {x : Option HB} : ∀ {l : List (Option HB)} {k j : Nat}, nthB l k = some b → nthB (setB l k x) j = if j = k then x else nthB l j
  | [], k, j, h => by simp [nthB] at h
  | c :: l, 0, 0, h => by simp [setB, nthB]
  | c :: l, 0, j + 1, h => by simp [setB, nthB]
  | c :: l, k + 1, 0, h => by simp [setB, nthB]
  | c :: l, k + 1, j + 1, h => by
    simp only [setB, nthB, Nat.add_right_cancel_iff]
    exact nth_setB (l := l) (by simpa [nthB] using h)

def HS.at (s : HS) (i : Id) : Option HB := match i with | ⟨o, 0, 0⟩ => (match Nat.blt o s.n with | true => nthB s.l (s.n - 1 - o) | false => none) | _ => none
def HS.abs (s : HS) : St := ⟨fun i => match s.at i with | some x => some x.toB | none => none, s.n, fun _ => 0⟩
def HS.set (s : HS) (i : Id) (x : Option HB) : HS := ⟨s.n, setB s.l (s.n - 1 - i.o) x⟩
def HS.alloc (s : HS) (b : HB) : HS := ⟨s.n + 1, some b :: s.l⟩
def HS.zero : HS := ⟨0, []⟩

theorem at_eq (s : HS) (i : Id) : s.at i = if i.k = 0 ∧ i.v = 0 ∧ i.o < s.n then nthB s.l (s.n - 1 - i.o) else none := by
  obtain ⟨o, k, v⟩ := i
  cases k <;> cases v <;> simp [HS.at]
  by_cases h : o < s.n
  · have : Nat.blt o s.n = true := by simpa [Nat.blt_eq] using h
    simp [this, h]
  · have : Nat.blt o s.n = false := by
      cases hb : Nat.blt o s.n with
      | false => rfl
      | true => rw [Nat.blt_eq] at hb; exact absurd hb h
    simp [this, h]

theorem abs_heap (s : HS) (i : Id) : s.abs.heap i = (s.at i).map HB.toB := by
  show (match s.at i with | some x => some x.toB | none => none) = _
  cases s.at i <;> rfl

theorem abs_zero : HS.zero.abs = emptySt := by
  have : HS.zero.abs.heap = fun _ => none := by funext i; rw [abs_heap, at_eq]; simp [HS.zero]
  cases h : HS.zero.abs
  rw [h] at this
  simp only [HS.abs, HS.zero, St.mk.injEq] at h
  obtain ⟨_, rfl, rfl⟩ := h
  simp only at this
  subst this; rfl

theorem st_ext {a b : St} (h1 : ∀ i, a.heap i = b.heap i) (h2 : a.next = b.next) (h3 : a.ver = b.ver) : a = b := by
  cases a; cases b
  simp only at h1 h2 h3
  rw [funext h1, h2, h3]

theorem at_set {s : HS} {i : Id} {b : HB} (h : s.at i = some b) (x : Option HB) (j : Id) : (s.set i x).at j = if j = i then x else s.at j := by
  rw [at_eq] at h
  split at h
  · rename_i hc
    obtain ⟨hk, hv, ho⟩ := hc
    rw [at_eq, at_eq]
    simp only [HS.set]
    obtain ⟨jo, jk, jv⟩ := j
    obtain ⟨io, ik, iv⟩ := i
    simp only at hk hv ho h ⊢
    subst hk; subst hv
    by_cases hj : jk = 0 ∧ jv = 0 ∧ jo < s.n
    · obtain ⟨rfl, rfl, hj⟩ := hj
      rw [nth_setB h]
      by_cases e : jo = io
      · subst e; simp [hj]
      · have : ¬ (s.n - 1 - jo = s.n - 1 - io) := by omega
        simp [hj, e, this]
    · have : ¬ ((⟨jo, jk, jv⟩ : Id) = ⟨io, 0, 0⟩) := by
        simp only [Id.mk.injEq]
        rintro ⟨rfl, rfl, rfl⟩
        exact hj ⟨rfl, rfl, ho⟩
      simp only [hj, this, if_false]
  · simp at h

theorem heap_at {s : HS} {i : Id} {b : Blk} (h : s.abs.heap i = some b) : ∃ x, s.at i = some x ∧ x.toB = b := by
  rw [abs_heap] at h
  cases hx : s.at i with
  | none => rw [hx] at h; simp at h
  | some x => rw [hx] at h; exact ⟨x, rfl, by simpa using h⟩

theorem abs_set {s : HS} {i : Id} {b : Blk} (h : s.abs.heap i = some b) (x : Option HB) : (s.set i x).abs = s.abs.set i (x.map HB.toB) := by
  obtain ⟨y, hy, _⟩ := heap_at h
  refine st_ext (fun j => ?_) rfl rfl
  have e : (s.abs.set i (x.map HB.toB)).heap j = if j = i then x.map HB.toB else s.abs.heap j := rfl
  rw [e, abs_heap, abs_heap, at_set hy]
  split <;> rfl

theorem abs_alloc (s : HS) (b : HB) : s.abs.alloc b.toB = (⟨s.n, 0, 0⟩, (s.alloc b).abs) := by
  simp only [St.alloc, Prod.mk.injEq]
  refine ⟨rfl, st_ext (fun j => ?_) rfl rfl⟩
  have e : (St.mk (s.abs.set ⟨s.abs.next, 0, 0⟩ (some b.toB)).heap (s.abs.next + 1) (s.abs.set ⟨s.abs.next, 0, 0⟩ (some b.toB)).ver).heap j = if j = ⟨s.n, 0, 0⟩ then some b.toB else s.abs.heap j := rfl
  rw [e, abs_heap, abs_heap, at_eq, at_eq]
  obtain ⟨jo, jk, jv⟩ := j
  simp only [HS.alloc, Id.mk.injEq]
  by_cases h1 : jo = s.n ∧ jk = 0 ∧ jv = 0
  · obtain ⟨rfl, rfl, rfl⟩ := h1
    simp [nthB]
  · rw [if_neg h1]
    by_cases h2 : jk = 0 ∧ jv = 0 ∧ jo < s.n
    · obtain ⟨rfl, rfl, h2⟩ := h2
      have e1 : jo < s.n + 1 := by omega
      have e2 : s.n + 1 - 1 - jo = (s.n - 1 - jo) + 1 := by omega
      simp only [h2, e1, and_self, if_true, e2, nthB]
    · have : ¬ (jk = 0 ∧ jv = 0 ∧ jo < s.n + 1) := by omega
      simp only [h2, this, if_false, Option.map_none]

/-! ### what turns the heap -/

def newC (s : HS) (cs : List AV) : Option (Id × HS) := if cs.all AV.isCell then some (⟨s.n, 0, 0⟩, s.alloc (.b (.cells cs))) else none
theorem newC_abs {s s' : HS} {cs : List AV} {i : Id} (h : newC s cs = some (i, s')) : newCells s.abs cs = some (i, s'.abs) := by
  unfold newC at h
  split at h
  · rename_i hc
    simp only [Option.some.injEq, Prod.mk.injEq] at h
    obtain ⟨rfl, rfl⟩ := h
    rw [newCells, if_pos hc]
    exact congrArg some (abs_alloc s (.b (.cells cs)))
  · simp at h

def putR (pre : List AV) (m : Nat) (z : AV) (off : Nat) (vs : List AV) : Option (List AV × Nat) :=
  match Nat.ble (off + vs.length - pre.length) m && vs.all AV.isCell with
  | true => some (splice (pre ++ List.replicate (off + vs.length - pre.length) z) off vs, m - (off + vs.length - pre.length))
  | false => none

theorem splice_left {A B vs : List AV} {off : Nat} (h : off + vs.length ≤ A.length) : splice (A ++ B) off vs = splice A off vs ++ B := by
  simp only [splice]
  rw [List.take_append_of_le_length (by omega), List.drop_append_of_le_length h]
  simp

theorem putR_eq {pre : List AV} {m : Nat} {z : AV} {off : Nat} {vs : List AV} {p : List AV × Nat} (h : putR pre m z off vs = some p) :
    off + vs.length ≤ (pre ++ List.replicate m z).length ∧ vs.all AV.isCell = true ∧ splice (pre ++ List.replicate m z) off vs = p.1 ++ List.replicate p.2 z := by
  unfold putR at h
  split at h
  · rename_i hc
    rw [Bool.and_eq_true, Nat.ble_eq] at hc
    simp only [Option.some.injEq] at h
    subst h
    obtain ⟨h1, h2⟩ := hc
    generalize hk : off + vs.length - pre.length = k at h1
    have e : pre ++ List.replicate m z = (pre ++ List.replicate k z) ++ List.replicate (m - k) z := by
      rw [List.append_assoc, List.replicate_append_replicate, show k + (m - k) = m by omega]
    refine ⟨by rw [List.length_append, List.length_replicate]; omega, h2, ?_⟩
    rw [e, splice_left (by rw [List.length_append, List.length_replicate]; omega)]
  · simp at h

def putC (s : HS) (i : Id) (off : Nat) (vs : List AV) : Option HS :=
  match s.at i with
  | some (.rl pre m z) => match putR pre m z off vs with
    | some p => some (s.set i (some (.rl p.1 p.2 z)))
    | none => none
  | _ => match s.abs.get i with
    | some cs => if off + vs.length ≤ cs.length ∧ vs.all AV.isCell = true then some (s.set i (some (.b (.cells (splice cs off vs))))) else none
    | none => none
theorem putC_abs {s s' : HS} {i : Id} {off : Nat} {vs : List AV} (h : putC s i off vs = some s') : storeCells s.abs i off vs = some s'.abs := by
  unfold putC at h
  split at h
  · rename_i pre m z h0
    have hh : s.abs.heap i = some (.cells (pre ++ List.replicate m z)) := by rw [abs_heap, h0]; rfl
    have hg : s.abs.get i = some (pre ++ List.replicate m z) := by unfold St.get; rw [hh]
    split at h
    · rename_i p hp
      simp only [Option.some.injEq] at h
      subst h
      obtain ⟨h1, h2, h3⟩ := putR_eq hp
      rw [storeCells, hg]
      simp only
      rw [if_pos ⟨h1, h2⟩, abs_set hh, h3]; rfl
    · simp at h
  · split at h
    · rename_i cs hg
      split at h
      · rename_i hc
        simp only [Option.some.injEq] at h
        subst h
        rw [storeCells, hg]
        simp only
        rw [if_pos hc, abs_set (get_heap hg)]; rfl
      · simp at h
    · simp at h

/-- A part of a long row. -/
def partR (agg : Bool) (n off : Nat) (pre : List AV) (m : Nat) (z : AV) : Option AV :=
  match Nat.ble (off + n) (pre.length + m) with
  | true => match agg with
    | true => some (.agg ((pre.drop off).take n ++ List.replicate (n - ((pre.drop off).take n).length) z))
    | false => match Nat.blt off pre.length with
      | true => pre[off]?
      | false => match Nat.blt off (pre.length + m) with
        | true => some z
        | false => none
  | false => none

theorem partR_eq {agg : Bool} {n off : Nat} {pre : List AV} {m : Nat} {z v : AV} (h : partR agg n off pre m z = some v) : part agg n off (pre ++ List.replicate m z) = some v := by
  unfold partR at h
  unfold part
  split at h
  · rename_i hc
    rw [Nat.ble_eq] at hc
    rw [if_pos (by rw [List.length_append, List.length_replicate]; exact hc)]
    split at h
    · simp only [Option.some.injEq] at h
      subst h
      simp only [if_true, Option.some.injEq, AV.agg.injEq]
      rw [List.drop_append, List.take_append, List.drop_replicate, List.take_replicate, List.length_take, List.length_drop]
      congr 2
      omega
    · rw [if_neg (by simp)]
      split at h
      · rename_i hb
        rw [Nat.blt_eq] at hb
        rw [List.getElem?_append_left hb]; exact h
      · rename_i hb
        have hb : ¬ off < pre.length := fun e => by rw [← Nat.blt_eq] at e; rw [e] at hb; simp at hb
        split at h
        · rename_i hm
          rw [Nat.blt_eq] at hm
          rw [List.getElem?_append_right (by omega), List.getElem?_replicate, if_pos (by omega)]; exact h
        · simp at h
  · simp at h

def isZ8 : AV → Bool
  | .int .u8 n => decide (n = 0)
  | _ => false
theorem isZ8_eq {x : AV} (h : isZ8 x = true) : x = .int .u8 0 := by
  unfold isZ8 at h
  split at h
  · simp only [decide_eq_true_eq] at h; subst h; rfl
  · simp at h
theorem zeros_eq {zero : List AV} {c sz : Nat} (h : zero.all isZ8 = true) (hl : zero.length = sz) : (List.replicate c zero).flatten = List.replicate (c * sz) (.int .u8 0) := by
  have : zero = List.replicate sz (.int .u8 0) := by
    rw [List.eq_replicate_iff]
    exact ⟨hl, fun b hb => isZ8_eq (List.all_eq_true.1 h b hb)⟩
  rw [this, List.flatten_replicate_replicate]

/-- A row of cells that are all alike, or not. -/
def newZ (s : HS) (c sz : Nat) (zero : List AV) : Option (Id × HS) :=
  match Nat.ble 4096 (c * sz) && zero.all isZ8 with
  | true => some (⟨s.n, 0, 0⟩, s.alloc (.rl [] (c * sz) (.int .u8 0)))
  | false => newC s ((List.replicate c zero).flatten)
theorem newZ_abs {s s' : HS} {c sz : Nat} {zero : List AV} {i : Id} (hl : zero.length = sz) (h : newZ s c sz zero = some (i, s')) : newCells s.abs ((List.replicate c zero).flatten) = some (i, s'.abs) := by
  unfold newZ at h
  split at h
  · rename_i hc
    rw [Bool.and_eq_true] at hc
    simp only [Option.some.injEq, Prod.mk.injEq] at h
    obtain ⟨rfl, rfl⟩ := h
    rw [zeros_eq hc.2 hl, newCells, if_pos (by rw [List.all_replicate]; simp [AV.isCell])]
    exact congrArg some (abs_alloc s (.rl [] (c * sz) (.int .u8 0)))
  · exact newC_abs h

def appC (s : HS) (sz bytes n : Nat) (xs : List AV) : AV → Option (AV × HS)
  | .nilsl => if n = 0 then some (.nilsl, s) else
      if n * bytes ≤ growMax then (newC s xs).map fun (i, s') => (.sl i 0 n (.ge n) sz, s') else none
  | .esl => if n = 0 then some (.esl, s) else none
  | .isl f cs len cap =>
    if n = 0 then some (.isl f cs len cap, s) else
    match cap with
    | some c => if c < len + n ∧ len * sz ≤ cs.length ∧ Builtin.nextslicecap (len + n) c * bytes ≤ growMax then
        (newC s (cs.take (len * sz) ++ xs)).map fun (i, s') => (.sl i 0 (len + n) (.ge (len + n)) sz, s') else none
    | none => none
  | .sl i off len cap sz' =>
    match s.abs.get i with
    | none => none
    | some cs =>
      if sz' ≠ sz then none else
      if len + n ≤ cap.room then
        (putC s i (off + len * sz) xs).map fun s' => (.sl i off (len + n) cap sz, s')
      else if off + len * sz ≤ cs.length ∧ (len + n) * bytes ≤ lenMax then
        match cap with
        | .ex _ => (newC s ((cs.drop off).take (len * sz) ++ xs)).map fun (j, s') => (.sl j 0 (len + n) (.ge (len + n)) sz, s')
        | .ge _ => (newC (s.set i none) ((cs.drop off).take (len * sz) ++ xs)).map fun (j, s') => (.sl j 0 (len + n) (.ge (len + n)) sz, s')
      else none
  | _ => none

theorem appC_abs {s s' : HS} {sz bytes n : Nat} {xs : List AV} {x v : AV} (h : appC s sz bytes n xs x = some (v, s')) : appendTo s.abs sz bytes n xs x = some (v, s'.abs) := by
  unfold appC at h
  unfold appendTo
  split at h
  · split at h
    · rename_i hn
      simp only [Option.some.injEq, Prod.mk.injEq] at h; obtain ⟨rfl, rfl⟩ := h
      simp only [hn, if_true]
    · rename_i hn
      split at h
      · rename_i hg
        simp only [Option.map_eq_some_iff, Prod.mk.injEq] at h
        obtain ⟨⟨i, s1⟩, h1, rfl, rfl⟩ := h
        simp only [hn, if_false, hg, if_true, newC_abs h1, Option.map_some]
      · simp at h
  · split at h
    · rename_i hn
      simp only [Option.some.injEq, Prod.mk.injEq] at h; obtain ⟨rfl, rfl⟩ := h
      simp only [hn, if_true]
    · simp at h
  · split at h
    · rename_i hn
      simp only [Option.some.injEq, Prod.mk.injEq] at h; obtain ⟨rfl, rfl⟩ := h
      simp only [hn, if_true]
    · rename_i hn
      split at h
      · split at h
        · rename_i hg
          simp only [Option.map_eq_some_iff, Prod.mk.injEq] at h
          obtain ⟨⟨i, s1⟩, h1, rfl, rfl⟩ := h
          simp only [hn, if_false, hg, and_self, if_true, newC_abs h1, Option.map_some]
        · simp at h
      · simp at h
  · split at h
    · simp at h
    · rename_i cs hg
      simp only [hg]
      split at h
      · simp at h
      · rename_i hsz
        rw [if_neg hsz]
        split at h
        · rename_i hr
          rw [if_pos hr]
          simp only [Option.map_eq_some_iff, Prod.mk.injEq] at h
          obtain ⟨s1, h1, rfl, rfl⟩ := h
          simp only [putC_abs h1, Option.map_some]
        · rename_i hr
          rw [if_neg hr]
          split at h
          · rename_i hc
            rw [if_pos hc]
            split at h
            · simp only [Option.map_eq_some_iff, Prod.mk.injEq] at h
              obtain ⟨⟨i, s1⟩, h1, rfl, rfl⟩ := h
              simp only [newC_abs h1, Option.map_some]
            · simp only [Option.map_eq_some_iff, Prod.mk.injEq] at h
              obtain ⟨⟨i, s1⟩, h1, rfl, rfl⟩ := h
              have e := abs_set (get_heap hg) none
              rw [Option.map_none] at e
              rw [← e]
              simp only [newC_abs h1, Option.map_some]
          · simp at h
  · simp at h

def cpyC (s : HS) (n : Nat) (xs : List AV) : AV → Option (AV × HS)
  | .nilsl | .esl => some (.int .i64 n, s)
  | .sl i off _ _ _ => (putC s i off xs).map fun s' => (.int .i64 n, s')
  | .isl .. => if n = 0 then some (.int .i64 n, s) else none
  | _ => none
theorem cpyC_abs {s s' : HS} {n : Nat} {xs : List AV} {x v : AV} (h : cpyC s n xs x = some (v, s')) : copyTo s.abs n xs x = some (v, s'.abs) := by
  unfold cpyC at h
  unfold copyTo
  split at h
  · simp only [Option.some.injEq, Prod.mk.injEq] at h; obtain ⟨rfl, rfl⟩ := h; rfl
  · simp only [Option.some.injEq, Prod.mk.injEq] at h; obtain ⟨rfl, rfl⟩ := h; rfl
  · simp only [Option.map_eq_some_iff, Prod.mk.injEq] at h
    obtain ⟨s1, h1, rfl, rfl⟩ := h
    simp only [putC_abs h1, Option.map_some]
  · split at h
    · rename_i hn
      simp only [Option.some.injEq, Prod.mk.injEq] at h; obtain ⟨rfl, rfl⟩ := h
      simp only [hn, if_true]
    · simp at h
  · simp at h

/-! ### one operation -/

structure CallC where
  fn : FuncId → List AV → HS → Option (AV × HS)
  yl : Id → List AV → HS → Option (AV × HS)
instance : CoeFun CallC (fun _ => FuncId → List AV → HS → Option (AV × HS)) := ⟨CallC.fn⟩
def noE : CallH := ⟨fun _ _ _ => none, fun _ _ _ => none⟩
def noT : Table := fun _ => none

def Ins.evC (E : CallC) (ρ : Env) (s : HS) : Ins → Option (AV × HS)
  | .alloc zero => (newC s zero).map fun (i, s') => (.ptr i 0, s')
  | .box x => (newC s (x.get ρ).cells).map fun (i, s') => (.ptr i 0, s')
  | .buildSl n sz zero parts => (fill ρ zero parts).bind fun cs => (newC s cs).map fun (i, s') => (.sl i 0 n (.ex n) sz, s')
  | .store n a v => match a.get ρ with
    | .ptr i off => if (v.get ρ).cells.length = n then (putC s i off (v.get ρ).cells).map fun s' => (.tup [], s') else none
    | _ => none
  | .bytesOf x => match x.get ρ with
    | .str t => if t.length ≤ lenMax then (newC s (t.map fun b => .int .u8 b.toNat)).map fun (i, s') => (.sl i 0 t.length (.ge t.length) 1, s') else none
    | _ => none
  | .makeSl sz bytes zero ln cp =>
    match asNat (ln.get ρ), asNat (cp.get ρ) with
    | some l, some c => if l ≤ c ∧ c * bytes ≤ growMax ∧ zero.length = sz then
        (newZ s c sz zero).map fun (i, s') => (.sl i 0 l (.ex c) sz, s') else none
    | _, _ => none
  | .append sz bytes d x => match lenOf (x.get ρ) with
    | some n => (elems s.abs sz n (x.get ρ)).bind fun xs => appC s sz bytes n xs (d.get ρ)
    | none => none
  | .appendZ sz bytes zero d x => match asNat (x.get ρ) with
    | some n => if n * bytes ≤ growMax ∧ zero.length = sz ∧ (d.get ρ).noIsl = true then appC s sz bytes n ((List.replicate n zero).flatten) (d.get ρ) else none
    | none => none
  | .copy sz d x => match lenOf (d.get ρ), lenOf (x.get ρ) with
    | some dl, some sl => (elems s.abs sz (min sl dl) (x.get ρ)).bind fun xs => cpyC s (min sl dl) xs (d.get ρ)
    | _, _ => none
  | .convSl x => match x.get ρ with | .sl i o n c z => (match s.abs.get i with | some _ => some (.sl i o n c z, s) | none => none) | _ => none
  | .makeMap => some (.map ⟨s.n, 0, 0⟩, s.alloc (.b (.map [] [])))
  | .mapUpd kt m k v => match m.get ρ with
    | .map i => match s.abs.heap i with
      | some (.map ks vs) => (findIn kt (k.get ρ) ks).bind fun r =>
        match r with
        | some j => if sameKey (ks.getD j .nilp) (k.get ρ) = true then some (.tup [], s.set i (some (.b (.map ks (vs.set j (v.get ρ)))))) else none
        | none => some (.tup [], s.set i (some (.b (.map (ks ++ [k.get ρ]) (vs ++ [v.get ρ])))))
      | _ => none
    | _ => none
  | .delete kt m k => match m.get ρ with
    | .map i => match s.abs.heap i with
      | some (.map ks vs) => (findIn kt (k.get ρ) ks).bind fun r =>
        match r with
        | some j => some (.tup [], s.set i (some (.b (.map (ks.eraseIdx j) (vs.eraseIdx j)))))
        | none => some (.tup [], s)
      | _ => none
    | _ => none
  | .load agg n x => match x.get ρ with
    | .ptr i off => match s.at i with
      | some (.rl pre m z) => match partR agg n off pre m z with | some v => some (v, s) | none => none
      | _ => match (Ins.load agg n x).ev noE ρ s.abs with | some (v, _) => some (v, s) | none => none
    | _ => match (Ins.load agg n x).ev noE ρ s.abs with | some (v, _) => some (v, s) | none => none
  | .call f args => E f (args.map (Arg.get ρ)) s
  | .callV x args => match x.get ρ with
    | .func (.func f) first capt => E f (first ++ args.map (Arg.get ρ) ++ capt) s
    | .yld i => E.yl i (args.map (Arg.get ρ)) s
    | _ => none
  | .invoke tbl x args => match x.get ρ with
    | .iface t v => match tbl.lookup t with | some (d, f) => (match recv s.abs d v with | some r => E f (r :: args.map (Arg.get ρ)) s | none => none) | none => none
    | _ => none
  | i => match i.look noT with
    | true => match i.ev noE ρ s.abs with | some (v, _) => some (v, s) | none => none
    | false => none

structure OkC (E : CallC) (F : CallH) : Prop where
  fn : ∀ f as s r s', E f as s = some (r, s') → F f as s.abs = some (r, s'.abs)
  yl : ∀ i as s r s', E.yl i as s = some (r, s') → F.yl i as s.abs = some (r, s'.abs)

theorem look_indep {i : Ins} (h : i.look noT = true) (E : CallH) (ρ : Env) (σ : St) : i.ev E ρ σ = i.ev noE ρ σ := by
  cases i <;> first | rfl | simp [Ins.look, Ins.still, noT] at h

theorem evC_abs {E : CallC} {F : CallH} (hE : OkC E F) {ρ : Env} {s s' : HS} {i : Ins} {v : AV} (h : i.evC E ρ s = some (v, s')) : i.ev F ρ s.abs = some (v, s'.abs) := by
  have look : ∀ j : Ins, (match j.look noT with
    | true => match j.ev noE ρ s.abs with | some (v, _) => some (v, s) | none => none
    | false => none) = some (v, s') → j.ev F ρ s.abs = some (v, s'.abs) := by
    intro j h
    split at h
    · rename_i hl
      split at h
      · rename_i v1 σ1 he
        simp only [Option.some.injEq, Prod.mk.injEq] at h
        obtain ⟨rfl, rfl⟩ := h
        have := looks_keep (T := noT) (E := noE) (fun f fi h => by simp [noT] at h) hl he
        subst this
        rw [look_indep hl]; exact he
      · simp at h
    · simp at h
  cases i
  case alloc => simp only [Ins.evC, Option.map_eq_some_iff, Prod.mk.injEq] at h; obtain ⟨⟨i, s1⟩, h1, rfl, rfl⟩ := h; simp only [Ins.ev, newC_abs h1, Option.map_some]
  case box => simp only [Ins.evC, Option.map_eq_some_iff, Prod.mk.injEq] at h; obtain ⟨⟨i, s1⟩, h1, rfl, rfl⟩ := h; simp only [Ins.ev, newC_abs h1, Option.map_some]
  case buildSl =>
    simp only [Ins.evC, Option.bind_eq_some_iff, Option.map_eq_some_iff, Prod.mk.injEq] at h; obtain ⟨cs, h0, ⟨i, s1⟩, h1, rfl, rfl⟩ := h
    simp only [Ins.ev, h0, Option.bind_some, newC_abs h1, Option.map_some]
  case load agg n x =>
    have old : (match (Ins.load agg n x).ev noE ρ s.abs with | some (v, _) => some (v, s) | none => none) = some (v, s') → (Ins.load agg n x).ev F ρ s.abs = some (v, s'.abs) := fun h => look (.load agg n x) h
    simp only [Ins.evC] at h
    split at h
    · rename_i i off hx
      split at h
      · rename_i pre m z h0
        split at h
        · rename_i u hu
          simp only [Option.some.injEq, Prod.mk.injEq] at h; obtain ⟨rfl, rfl⟩ := h
          have hh : s.abs.heap i = some (.cells (pre ++ List.replicate m z)) := by rw [abs_heap, h0]; rfl
          have hg : s.abs.get i = some (pre ++ List.replicate m z) := by unfold St.get; rw [hh]
          simp only [Ins.ev, hx, loadAt, hg, Option.bind_some, partR_eq hu, ret1, Option.map_some]
        · simp at h
      · exact old h
    · exact old h
  case store n a x =>
    simp only [Ins.evC] at h
    split at h
    · rename_i i off ha
      split at h
      · rename_i hl
        simp only [Option.map_eq_some_iff, Prod.mk.injEq] at h; obtain ⟨s1, h1, rfl, rfl⟩ := h
        simp only [Ins.ev, storeAt, ha, hl, if_true, putC_abs h1, Option.map_some]
      · simp at h
    · simp at h
  case bytesOf x =>
    simp only [Ins.evC] at h
    split at h
    · rename_i t hx
      split at h
      · rename_i hl
        simp only [Option.map_eq_some_iff, Prod.mk.injEq] at h; obtain ⟨⟨i, s1⟩, h1, rfl, rfl⟩ := h
        simp only [Ins.ev, hx, hl, if_true, newC_abs h1, Option.map_some]
      · simp at h
    · simp at h
  case makeSl =>
    simp only [Ins.evC] at h
    split at h
    · rename_i l c hl hc
      split at h
      · rename_i hk
        simp only [Option.map_eq_some_iff, Prod.mk.injEq] at h; obtain ⟨⟨i, s1⟩, h1, rfl, rfl⟩ := h
        simp only [Ins.ev, hl, hc]
        rw [if_pos hk, newZ_abs hk.2.2 h1]; rfl
      · simp at h
    · simp at h
  case appendZ =>
    simp only [Ins.evC] at h
    split at h
    · rename_i n hn
      split at h
      · rename_i hc
        simp only [Ins.ev, hn]
        rw [if_pos hc]
        exact appC_abs h
      · simp at h
    · simp at h
  case append =>
    simp only [Ins.evC] at h
    split at h
    · rename_i n hn
      simp only [Option.bind_eq_some_iff] at h; obtain ⟨xs, h1, h2⟩ := h
      simp only [Ins.ev, hn, h1, Option.bind_some, appC_abs h2]
    · simp at h
  case copy =>
    simp only [Ins.evC] at h
    split at h
    · rename_i dl sl h1 h2
      simp only [Option.bind_eq_some_iff] at h; obtain ⟨xs, h3, h4⟩ := h
      simp only [Ins.ev, h1, h2, h3, Option.bind_some, cpyC_abs h4]
    · simp at h
  case convSl x =>
    simp only [Ins.evC] at h
    split at h
    · rename_i i o n c z hx
      split at h
      · rename_i cs hg
        simp only [Option.some.injEq, Prod.mk.injEq] at h; obtain ⟨rfl, rfl⟩ := h
        simp only [Ins.ev, hx, hg, Option.map_some]
      · simp at h
    · simp at h
  case makeMap =>
    simp only [Ins.evC, Option.some.injEq, Prod.mk.injEq] at h; obtain ⟨rfl, rfl⟩ := h
    simp only [Ins.ev]
    exact congrArg (fun p : Id × St => some (AV.map p.1, p.2)) (abs_alloc s (.b (.map [] [])))
  case mapUpd kt m k x =>
    simp only [Ins.evC] at h
    split at h
    · rename_i i hm
      split at h
      · rename_i ks vs hh
        simp only [Option.bind_eq_some_iff] at h; obtain ⟨r, h1, h2⟩ := h
        simp only [Ins.ev, hm, hh, h1, Option.bind_some]
        cases r with
        | none =>
          simp only [Option.some.injEq, Prod.mk.injEq] at h2; obtain ⟨rfl, rfl⟩ := h2
          rw [abs_set hh]; rfl
        | some j =>
          simp only at h2
          split at h2
          · rename_i hk
            simp only [Option.some.injEq, Prod.mk.injEq] at h2; obtain ⟨rfl, rfl⟩ := h2
            simp only
            rw [if_pos hk, abs_set hh]; rfl
          · simp at h2
      · simp at h
    · simp at h
  case delete kt m k =>
    simp only [Ins.evC] at h
    split at h
    · rename_i i hm
      split at h
      · rename_i ks vs hh
        simp only [Option.bind_eq_some_iff] at h; obtain ⟨r, h1, h2⟩ := h
        simp only [Ins.ev, hm, hh, h1, Option.bind_some]
        cases r with
        | none => simp only [Option.some.injEq, Prod.mk.injEq] at h2; obtain ⟨rfl, rfl⟩ := h2; rfl
        | some j =>
          simp only [Option.some.injEq, Prod.mk.injEq] at h2; obtain ⟨rfl, rfl⟩ := h2
          rw [abs_set hh]; rfl
      · simp at h
    · simp at h
  case call => exact hE.fn _ _ _ _ _ h
  case callV x args =>
    simp only [Ins.evC] at h
    split at h
    · rename_i f first capt hx
      simp only [Ins.ev, hx]; exact hE.fn _ _ _ _ _ h
    · rename_i i hx
      simp only [Ins.ev, hx]; exact hE.yl _ _ _ _ _ h
    · simp at h
  case invoke tbl x args =>
    simp only [Ins.evC] at h
    split at h
    · rename_i t q hx
      split at h
      · rename_i d f hf
        split at h
        · rename_i r hr
          simp only [Ins.ev, hx, hf, hr, Option.bind_some]; exact hE.fn _ _ _ _ _ h
        · simp at h
      · simp at h
    · simp at h
  all_goals exact look _ h

/-! ### slots -/

def setA : List AV → Nat → AV → List AV
  | [], _, _ => []
  | _ :: l, 0, x => x :: l
  | v :: l, k + 1, x => v :: setA l k x
theorem setA_len : ∀ (l : List AV) (k : Nat) (x : AV), (setA l k x).length = l.length
  | [], _, _ => rfl
  | _ :: l, 0, x => rfl
  | v :: l, k + 1, x => by simp [setA, setA_len l k x]
theorem nth_setA : ∀ {l : List AV} {k j : Nat} {x : AV}, k < l.length → nthA (setA l k x) j = if j = k then x else nthA l j
  | [], k, j, x, h => by simp at h
  | c :: l, 0, 0, x, h => by simp [setA, nthA]
  | c :: l, 0, j + 1, x, h => by simp [setA, nthA]
  | c :: l, k + 1, 0, x, h => by simp [setA, nthA]
  | c :: l, k + 1, j + 1, x, h => by
    simp only [setA, nthA, Nat.add_right_cancel_iff]
    exact nth_setA (l := l) (by simpa using h)
theorem nthA_getD : ∀ (l : List AV) (k : Nat), nthA l k = l.getD k (.tup [])
  | [], k => by simp [nthA]
  | v :: l, 0 => by simp [nthA]
  | v :: l, k + 1 => by simp [nthA, nthA_getD l k]

def putA (nt : Nat) (r : List AV) (d : Option Nat) (v : AV) : Option (List AV) :=
  match d with
  | none => some r
  | some d => match Nat.blt d nt with | true => some (setA r d v) | false => none
theorem putA_abs {nt : Nat} {r r' : List AV} {d : Option Nat} {v : AV} (hl : r.length = nt) (h : putA nt r d v = some r') : nthA r' = Env.put (nthA r) d v ∧ r'.length = nt := by
  unfold putA at h
  split at h
  · simp only [Option.some.injEq] at h; subst h; exact ⟨rfl, hl⟩
  · rename_i d
    split at h
    · rename_i hd
      simp only [Option.some.injEq] at h; subst h
      rw [Nat.blt_eq] at hd
      refine ⟨?_, by rw [setA_len]; exact hl⟩
      funext t
      rw [nth_setA (by omega)]; rfl
    · simp at h

/-! ### code -/

def opsC (E : CallC) (nt : Nat) : List Op → List AV → HS → Option (List AV × HS)
  | [], r, s => some (r, s)
  | o :: l, r, s => match wanted (nthA r) o.guard with
    | true => match o.ins.evC E (nthA r) s with
      | some (v, s') => match putA nt r o.dst v with
        | some r' => opsC E nt l r' s'
        | none => none
      | none => none
    | false => match putA nt r o.dst (.tup []) with
      | some r' => opsC E nt l r' s
      | none => none

theorem opsC_abs {E : CallC} {F : CallH} (hE : OkC E F) {nt : Nat} : ∀ {l : List Op} {r r' : List AV} {s s' : HS}, r.length = nt → opsC E nt l r s = some (r', s') → opsEv F l (nthA r) s.abs = some (nthA r', s'.abs) ∧ r'.length = nt
  | [], r, r', s, s', hl, h => by simp only [opsC, Option.some.injEq, Prod.mk.injEq] at h; obtain ⟨rfl, rfl⟩ := h; exact ⟨rfl, hl⟩
  | o :: l, r, r', s, s', hl, h => by
    simp only [opsC] at h
    split at h
    · rename_i hw
      split at h
      · rename_i v s1 hv
        split at h
        · rename_i r1 hp
          obtain ⟨h1, h2⟩ := putA_abs hl hp
          obtain ⟨h3, h4⟩ := opsC_abs hE h2 h
          refine ⟨?_, h4⟩
          simp only [opsEv, Op.ev, hw, if_true, evC_abs hE hv, Option.map_some]
          rw [← h1]; exact h3
        · simp at h
      · simp at h
    · rename_i hw
      split at h
      · rename_i r1 hp
        obtain ⟨h1, h2⟩ := putA_abs hl hp
        obtain ⟨h3, h4⟩ := opsC_abs hE h2 h
        refine ⟨?_, h4⟩
        simp only [opsEv, Op.ev, hw, Bool.false_eq_true, if_false]
        rw [← h1]; exact h3
      · simp at h

/-! values alike -/
mutual
def AV.same : AV → AV → Bool
  | .int k a, .int k' b => decide (k = k') && decide (a = b)
  | .bool a, .bool b => a == b
  | .str a, .str b => decide (a = b)
  | .nilp, .nilp | .nilsl, .nilsl | .esl, .esl | .nilm, .nilm | .nilFunc, .nilFunc | .nilIface, .nilIface => true
  | .ptr i o, .ptr j p => decide (i = j) && Nat.beq o p
  | .iptr f l o, .iptr g m p => (f == g) && sameL l m && Nat.beq o p
  | .sl i a b c d, .sl i' a' b' c' d' => decide (i = i') && Nat.beq a a' && Nat.beq b b' && decide (c = c') && Nat.beq d d'
  | .isl f l n c, .isl g m n' c' => (f == g) && sameL l m && Nat.beq n n' && decide (c = c')
  | .map i, .map j => decide (i = j)
  | .agg l, .agg m | .tup l, .tup m => sameL l m
  | .iface t x, .iface u y => Nat.beq t u && AV.same x y
  | _, _ => false
def sameL : List AV → List AV → Bool
  | [], [] => true
  | x :: l, y :: m => AV.same x y && sameL l m
  | _, _ => false
end
end Go.Vm
