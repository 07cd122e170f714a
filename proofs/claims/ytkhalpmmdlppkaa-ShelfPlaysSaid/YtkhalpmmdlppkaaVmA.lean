/-
  THE GENERIC LAYER 'Vm', part A: abstract values, the abstract heap, and how they lie in a world of the machine.
-/
import Derived.Calls
import Derived.Orders
import Derived.Laws.Sem
import Derived.Laws.World
import Derived.Laws.Cells
import Derived.Laws.Append
import Derived.Lib.Bytealg
namespace Go.Vm

/-- A block of the abstract heap: object, part, version. -/
structure Id where
  o : Nat
  k : Nat
  v : Nat
deriving DecidableEq

/-- What is known of a capacity. -/
inductive Cap where
  | ex (n : Nat)
  | ge (n : Nat)
deriving DecidableEq

inductive AV where
  | int (k : IntKind) (n : Int)
  | bool (b : Bool)
  | str (s : List UInt8)
  | nilp
  | ptr (i : Id) (off : Nat)
  | iptr (f : Bool) (cs : List AV) (off : Nat)
  | nilsl
  | esl
  | sl (i : Id) (off len : Nat) (cap : Cap) (sz : Nat)
  | isl (f : Bool) (cs : List AV) (len : Nat) (cap : Option Nat)
  | nilm
  | map (i : Id)
  | yld (i : Id)
  | imap (f : Bool) (ks vs : List AV)
  | func (fn : Fn) (first capt : List AV)
  | nilFunc
  | iface (t : TypeId) (v : AV)
  | nilIface
  | agg (cs : List AV)
  | tup (cs : List AV)
deriving Inhabited

/-- Immutable through and through; a pointer only where it is let. -/
def AV.flt (ok : Id → Nat → Bool) : AV → Bool
  | .ptr i off => ok i off
  | .sl .. | .map .. | .imap .. | .yld .. => false
  | .iptr f _ _ | .isl f _ _ _ => !f
  | .func _ a b => fltL ok a && fltL ok b
  | .iface _ v => v.flt ok
  | .agg cs | .tup cs => fltL ok cs
  | _ => true
where fltL (ok : Id → Nat → Bool) : List AV → Bool
  | [] => true
  | c :: cs => c.flt ok && fltL ok cs

theorem AV.fltL_eq (ok : Id → Nat → Bool) (cs : List AV) : AV.flt.fltL ok cs = cs.all (AV.flt ok) := by
  induction cs with
  | nil => simp [AV.flt.fltL]
  | cons c cs ih => simp [AV.flt.fltL, ih]

abbrev AV.cln : AV → Bool := AV.flt fun _ _ => false

/-- Nothing that may be written through. -/
def AV.nref : AV → Bool
  | .ptr .. | .sl .. | .map .. | .yld .. => false
  | .func _ a b => nrefL a && nrefL b
  | .iface _ v => v.nref
  | .agg cs | .tup cs => nrefL cs
  | _ => true
where nrefL : List AV → Bool
  | [] => true
  | c :: cs => c.nref && nrefL cs

theorem AV.nrefL_eq (cs : List AV) : AV.nref.nrefL cs = cs.all AV.nref := by
  induction cs with
  | nil => simp [AV.nref.nrefL]
  | cons c cs ih => simp [AV.nref.nrefL, ih]

/-- What one cell may hold. -/
def AV.isCell : AV → Bool
  | .agg _ | .tup _ => false
  | _ => true

inductive Arg where
  | t (n : Nat)
  | c (v : AV)

abbrev Env := Nat → AV
def Arg.get (ρ : Env) : Arg → AV
  | .t n => ρ n
  | .c v => v
def Env.put (ρ : Env) (d : Option Nat) (v : AV) : Env :=
  match d with
  | some d => fun t => if t = d then v else ρ t
  | none => ρ

/-- How two values of a type are held against each other. -/
inductive NK where
  | p | s | m | f | i
deriving DecidableEq

inductive EqT where
  | int | bool | str
  | nil (k : NK)
  | st (fs : List (Nat × Nat × EqT))

inductive LK where
  | str | sl | map

inductive Ins where
  | mv (x : Arg)
  | pick (c a b : Arg)
  | alloc (zero : List AV)
  | box (x : Arg)
  | build (zero : List AV) (parts : List (Nat × Nat × Arg))
  | buildSl (len sz : Nat) (zero : List AV) (parts : List (Nat × Nat × Arg))
  | load (agg : Bool) (n : Nat) (a : Arg)
  | store (n : Nat) (a v : Arg)
  | nilCk (x : Arg)
  | bin (op : BinOp) (x y : Arg)
  | eq (neg : Bool) (t : EqT) (x y : Arg)
  | un (op : UnOp) (x : Arg)
  | convInt (k : IntKind) (x : Arg)
  | convId (x : Arg)
  | convSl (x : Arg)
  | strOf (x : Arg)
  | cmpB (x y : Arg)
  | idxB (x c : Arg)
  | bytesOf (x : Arg)
  | arrOf (n sz : Nat) (x : Arg)
  | mkIface (t : TypeId) (x : Arg)
  | mkFunc (fn : Fn) (first capt : List Arg)
  | makeSl (sz bytes : Nat) (zero : List AV) (len cap : Arg)
  | slStr (x : Arg) (lo hi : Option Arg)
  | slSl (sz : Nat) (x : Arg) (lo hi mx : Option Arg)
  | slArr (n sz : Nat) (x : Arg) (lo hi mx : Option Arg)
  | faddr (off : Nat) (x : Arg)
  | fld (off : Nat) (agg : Bool) (n : Nat) (x : Arg)
  | iaArr (n sz : Nat) (x i : Arg)
  | iaSl (sz : Nat) (x i : Arg)
  | ixArr (n sz : Nat) (agg : Bool) (x i : Arg)
  | ixStr (x i : Arg)
  | ext (i : Nat) (x : Arg)
  | len (k : LK) (x : Arg)
  | konst (n : Nat)
  | capOf (x : Arg)
  | append (sz bytes : Nat) (s x : Arg)
  | appendZ (sz bytes : Nat) (zero : List AV) (s x : Arg)
  | copy (sz : Nat) (d s : Arg)
  | minmax (mx : Bool) (args : List Arg)
  | makeMap
  | lookup (kt : EqT) (zero : AV) (ok : Bool) (m k : Arg)
  | mapUpd (kt : EqT) (m k v : Arg)
  | delete (kt : EqT) (m k : Arg)
  | tassert (t : TypeId) (ok : Bool) (zero : AV) (x : Arg)
  | call (f : FuncId) (args : List Arg)
  | callV (x : Arg) (args : List Arg)
  | invoke (tbl : List (TypeId × Option (Bool × Nat) × FuncId)) (x : Arg) (args : List Arg)
  | no

structure Op where
  dst : Option Nat
  ins : Ins
  guard : Option (Nat × Bool)

/-- One of a region whose order is open: and the ones that stand ahead of it in every order. -/
structure DOp where
  op : Op
  pre : List Nat

inductive C where
  | skip
  | ops (l : List Op)
  | draw (l : List DOp)
  | seq (a b : C)
  | cond (c : Arg) (a b : C)
  | block (id : Nat) (c : C)
  | loop (c : C)
  | rangeF (x : Arg) (ps : List Nat) (as body : C) (nt : Nat)
  | exit (id : Nat)
  | ret
  | no

inductive Ex where
  | normal | exit (id : Nat) | ret
deriving DecidableEq

inductive Blk where
  | cells (cs : List AV)
  | map (ks vs : List AV)
  | loop (nt : Nat) (st : LoopState) (pd : Option Ex) (ρ : Env) (ps : List Nat) (as body : C)

structure St where
  heap : Id → Option Blk
  next : Nat
  ver : Nat → Nat

def St.get (σ : St) (i : Id) : Option (List AV) :=
  match σ.heap i with
  | some (.cells cs) => some cs
  | _ => none

def St.set (σ : St) (i : Id) (b : Option Blk) : St := { σ with heap := fun j => if j = i then b else σ.heap j }

/-- The context in which a value is read: the world, where blocks lie, which ids may be named, whose blocks are another's. -/
structure Ctx where
  w : World
  mu : Id → Option (Nat × Nat)
  bd : Id → Prop
  fm : Nat → Prop
  tr : Nat → Code → C

def Ctx.free (K : Ctx) (b : Nat) : Prop := ∀ i d, K.mu i ≠ some (b, d)

/-- A cell that is there, and may be written. -/
def Room (w : World) (b o : Nat) : Prop := (w.cell? ⟨b, o, none⟩).isSome = true ∧ w.frozen? ⟨b, o, none⟩ = false

def CapR : Option Nat → Nat → Prop
  | some n, c => c = n
  | none, _ => True
def CapS : Cap → Nat → Prop
  | .ex n, c => c = n
  | .ge n, c => n ≤ c

inductive VR (K : Ctx) : AV → Value → Prop
  | int (k : IntKind) (n : Int) : VR K (.int k n) (.int k n)
  | bool (b : Bool) : VR K (.bool b) (.bool b)
  | str (s : List UInt8) : VR K (.str s) (.string ⟨s.toArray⟩)
  | nilp : VR K .nilp (.pointer none)
  | ptr {i : Id} {off : Nat} {a : Addr} (hb : K.bd i) (h : ∀ b d, K.mu i = some (b, d) → a = ⟨b, d + off, none⟩) : VR K (.ptr i off) (.pointer (some a))
  | iptr {f : Bool} {cs : List AV} {off b o : Nat} (g : Nat → Value) (hlt : b < K.w.heap.size) (hfree : K.free b) (hfm : f = false → ¬ K.fm b ∧ cs.all AV.cln = true)
      (hcell : cs.all AV.isCell = true) (hnr : cs.all AV.nref = true) (hc : ∀ j, j < cs.length → K.w.cell? ⟨b, o + j, none⟩ = some (g j)) (hv : ∀ j (h : j < cs.length), VR K cs[j] (g j)) :
      VR K (.iptr f cs off) (.pointer (some ⟨b, o + off, none⟩))
  | nilsl : VR K .nilsl (.slice none 0 0)
  | esl {a : Addr} {c : Nat} : VR K .esl (.slice (some a) 0 c)
  | sl {i : Id} {off len sz : Nat} {cap : Cap} {a : Addr} {c : Nat} (hb : K.bd i) (h : ∀ b d, K.mu i = some (b, d) → a = ⟨b, d + off, none⟩)
      (hl : len ≤ c) (hcap : CapS cap c) (hroom : ∀ b d, K.mu i = some (b, d) → ∀ j, j < c * sz → Room K.w b (d + off + j)) : VR K (.sl i off len cap sz) (.slice (some a) len c)
  | isl {f : Bool} {cs : List AV} {len : Nat} {cap : Option Nat} {b o c : Nat} (g : Nat → Value)
      (hpos : cs ≠ [] → b < K.w.heap.size ∧ K.free b ∧ (f = false → ¬ K.fm b ∧ cs.all AV.cln = true))
      (hcell : cs.all AV.isCell = true) (hnr : cs.all AV.nref = true) (hc : ∀ j, j < cs.length → K.w.cell? ⟨b, o + j, none⟩ = some (g j)) (hv : ∀ j (h : j < cs.length), VR K cs[j] (g j))
      (hl : len ≤ c) (hcap : CapR cap c) : VR K (.isl f cs len cap) (.slice (some ⟨b, o, none⟩) len c)
  | islE {f : Bool} {a : Addr} {c : Nat} {cap : Option Nat} (hcap : CapR cap c) : VR K (.isl f [] 0 cap) (.slice (some a) 0 c)
  | islNil {f : Bool} {cap : Option Nat} (hcap : CapR cap 0) : VR K (.isl f [] 0 cap) (.slice none 0 0)
  | nilm : VR K .nilm (.map none)
  | map {i : Id} {r : Nat} (hb : K.bd i) (h : ∀ b d, K.mu i = some (b, d) → r = b) : VR K (.map i) (.map (some r))
  | yld {i : Id} {r : Nat} (hb : K.bd i) (h : ∀ b d, K.mu i = some (b, d) → r = b) : VR K (.yld i) (.func (.yield r) #[] #[])
  | imap {f : Bool} {ks vs : List AV} {r : Nat} {es : Array MapEntry} {clk : Nat} (hnr : ks.all AV.nref = true ∧ vs.all AV.nref = true) (hlt : r < K.w.heap.size) (hfree : K.free r) (hfm : f = false → ¬ K.fm r)
      (hr : K.w.heap[r]? = some (.map es clk)) (hk : es.size = ks.length) (hvl : es.size = vs.length)
      (hks : ∀ j (h : j < ks.length), VR K ks[j] (es[j]?.map MapEntry.key |>.getD undef))
      (hvs : ∀ j (h : j < vs.length), VR K vs[j] (es[j]?.map MapEntry.val |>.getD undef)) :
      VR K (.imap f ks vs) (.map (some r))
  | func {fn : Fn} {first capt : List AV} (gf gc : Array Value) (h1 : gf.size = first.length) (h2 : gc.size = capt.length)
      (hf : ∀ j (h : j < first.length), VR K first[j] (gf[j]?.getD undef)) (hc : ∀ j (h : j < capt.length), VR K capt[j] (gc[j]?.getD undef)) :
      VR K (.func fn first capt) (.func fn gf gc)
  | nilFunc : VR K .nilFunc .nilFunc
  | iface {t : TypeId} {x : AV} {v : Value} (h : VR K x v) : VR K (.iface t x) (.iface t v)
  | nilIface : VR K .nilIface .nilIface
  | agg {cs : List AV} (g : Array Value) (h1 : g.size = cs.length) (hcell : cs.all AV.isCell = true) (hv : ∀ j (h : j < cs.length), VR K cs[j] (g[j]?.getD undef)) : VR K (.agg cs) (.agg g)
  | tup {cs : List AV} (g : Array Value) (h1 : g.size = cs.length) (hv : ∀ j (h : j < cs.length), VR K cs[j] (g[j]?.getD undef)) : VR K (.tup cs) (.tuple g)

/-- What may become of a context: what is read in it still is. -/
structure Ext (K K' : Ctx) : Prop where
  size : K.w.heap.size ≤ K'.w.heap.size
  same : ∀ b, b < K.w.heap.size → K.free b → K'.w.heap[b]? = K.w.heap[b]?
  free : ∀ b, b < K.w.heap.size → K.free b → K'.free b
  mu : ∀ i, K.bd i → ∀ p, K'.mu i = some p → K.mu i = some p
  bd : ∀ i, K.bd i → K'.bd i
  fm : ∀ b, b < K.w.heap.size → K.free b → K'.fm b → K.fm b
  keep : ∀ b o, Room K.w b o → Room K'.w b o
  out : K'.w.os = K.w.os ∧ K'.w.output = K.w.output
  tr : K'.tr = K.tr

theorem Ext.refl (K : Ctx) : Ext K K := ⟨Nat.le_refl _, fun _ _ _ => rfl, fun _ _ h => h, fun _ _ _ h => h, fun _ h => h, fun _ _ _ h => h, fun _ _ h => h, ⟨rfl, rfl⟩, rfl⟩
theorem Ext.trans {K K' K'' : Ctx} (h : Ext K K') (h' : Ext K' K'') : Ext K K'' where
  size := Nat.le_trans h.size h'.size
  same b hb hf := by rw [h'.same b (Nat.lt_of_lt_of_le hb h.size) (h.free b hb hf), h.same b hb hf]
  free b hb hf := h'.free b (Nat.lt_of_lt_of_le hb h.size) (h.free b hb hf)
  mu i hi p hp := h.mu i hi p (h'.mu i (h.bd i hi) p hp)
  bd i hi := h'.bd i (h.bd i hi)
  fm b hb hfr hf := h.fm b hb hfr (h'.fm b (Nat.lt_of_lt_of_le hb h.size) (h.free b hb hfr) hf)
  keep b o hr := h'.keep b o (h.keep b o hr)
  out := ⟨h'.out.1.trans h.out.1, h'.out.2.trans h.out.2⟩
  tr := h'.tr.trans h.tr

theorem cell?_congr {w w' : World} {b o : Nat} (h : w'.heap[b]? = w.heap[b]?) : w'.cell? ⟨b, o, none⟩ = w.cell? ⟨b, o, none⟩ := by
  simp [World.cell?, h]
theorem frozen?_congr {w w' : World} {b o : Nat} (h : w'.heap[b]? = w.heap[b]?) : w'.frozen? ⟨b, o, none⟩ = w.frozen? ⟨b, o, none⟩ := by
  simp [World.frozen?, h]

theorem VR.ext {K K' : Ctx} (h : Ext K K') {x : AV} {v : Value} (hx : VR K x v) : VR K' x v := by
  induction hx with
  | int k n => exact .int k n
  | bool b => exact .bool b
  | str s => exact .str s
  | nilp => exact .nilp
  | ptr hb h1 => exact .ptr (h.bd _ hb) fun b d hm => h1 b d (h.mu _ hb _ hm)
  | iptr g hlt hfree hfm hcell hnr hc hv ih =>
    exact .iptr g (Nat.lt_of_lt_of_le hlt h.size) (h.free _ hlt hfree) (fun hf => ⟨fun hk => (hfm hf).1 (h.fm _ hlt hfree hk), (hfm hf).2⟩) hcell hnr
      (fun j hj => by rw [cell?_congr (h.same _ hlt hfree)]; exact hc j hj) ih
  | nilsl => exact .nilsl
  | esl => exact .esl
  | sl hb h1 hl hcap hr => exact .sl (h.bd _ hb) (fun b d hm => h1 b d (h.mu _ hb _ hm)) hl hcap (fun b d hm j hj => h.keep _ _ (hr b d (h.mu _ hb _ hm) j hj))
  | @isl f cs len cap b o c g hpos hcell hnr hc hv hl hcap ih =>
    refine .isl g (fun hne => ?_) hcell hnr (fun j hj => ?_) ih hl hcap
    · obtain ⟨a1, a2, a3⟩ := hpos hne
      exact ⟨Nat.lt_of_lt_of_le a1 h.size, h.free _ a1 a2, fun hf => ⟨fun hk => (a3 hf).1 (h.fm _ a1 a2 hk), (a3 hf).2⟩⟩
    · obtain ⟨a1, a2, _⟩ := hpos (by intro e; simp [e] at hj)
      rw [cell?_congr (h.same _ a1 a2)]; exact hc j hj
  | islE hcap => exact .islE hcap
  | islNil hcap => exact .islNil hcap
  | nilm => exact .nilm
  | map hb h1 => exact .map (h.bd _ hb) fun b d hm => h1 b d (h.mu _ hb _ hm)
  | yld hb h1 => exact .yld (h.bd _ hb) fun b d hm => h1 b d (h.mu _ hb _ hm)
  | imap hnr hlt hfree hfm hr hk hvl hks hvs ih1 ih2 =>
    exact .imap hnr (Nat.lt_of_lt_of_le hlt h.size) (h.free _ hlt hfree) (fun hf hk => hfm hf (h.fm _ hlt hfree hk)) (by rw [h.same _ hlt hfree]; exact hr) hk hvl ih1 ih2
  | func gf gc h1 h2 hf hc ih1 ih2 => exact .func gf gc h1 h2 ih1 ih2
  | nilFunc => exact .nilFunc
  | iface hx ih => exact .iface ih
  | nilIface => exact .nilIface
  | agg g h1 hcell hv ih => exact .agg g h1 hcell ih
  | tup g h1 hv ih => exact .tup g h1 ih

/-- What is frozen of a block lies behind its cells. -/
def FzOk (w : World) (b : Nat) : Prop := ∀ C e lo hi, w.heap[b]? = some (.cells C e (lo, hi)) → lo = hi ∨ C.size ≤ lo

/-- The jump that is pending. -/
def PdR : Option Ex → Option Code → Prop
  | none, none => True
  | some .ret, some .ret => True
  | some (.exit i), some (.exit j) => i = j
  | _, _ => False

/-- How a block lies in the world. -/
def BlkR (K : Ctx) (b d : Nat) : Blk → Prop
  | .cells cs => cs.all AV.isCell = true ∧ FzOk K.w b ∧ ∃ g : Nat → Value, (∀ j, j < cs.length → K.w.cell? ⟨b, d + j, none⟩ = some (g j) ∧ K.w.frozen? ⟨b, d + j, none⟩ = false) ∧ ∀ j (h : j < cs.length), VR K cs[j] (g j)
  | .map ks vs => ∃ es clk, K.w.heap[b]? = some (.map es clk) ∧ es.size = ks.length ∧ es.size = vs.length ∧
      (∀ j (h : j < ks.length), VR K ks[j] (es[j]?.map MapEntry.key |>.getD undef)) ∧ (∀ j (h : j < vs.length), VR K vs[j] (es[j]?.map MapEntry.val |>.getD undef))
  | .loop nt st pd ρ ps as body => ∃ r : Loop, K.w.heap[b]? = some (.loop r) ∧ r.state = st ∧ PdR pd r.pending ∧ r.params.toList = ps ∧ r.tmps.size = nt ∧
      (∀ t, t < nt → VR K (ρ t) (r.tmps.getD t undef)) ∧ K.tr nt r.assign = as ∧ K.tr nt r.body = body

theorem BlkR.ext {K K' : Ctx} (h : Ext K K') {b d : Nat} {x : Blk} (hb : K'.w.heap[b]? = K.w.heap[b]?) (hx : BlkR K b d x) : BlkR K' b d x := by
  cases x with
  | cells cs =>
    obtain ⟨h0, hf, g, h1, h2⟩ := hx
    exact ⟨h0, by unfold FzOk; rw [hb]; exact hf, g, fun j hj => by rw [cell?_congr hb, frozen?_congr hb]; exact h1 j hj, fun j hj => (h2 j hj).ext h⟩
  | map ks vs =>
    obtain ⟨es, clk, h1, h2, h3, h4, h5⟩ := hx
    exact ⟨es, clk, by rw [hb]; exact h1, h2, h3, fun j hj => (h4 j hj).ext h, fun j hj => (h5 j hj).ext h⟩
  | loop nt st pd ρ ps as body =>
    obtain ⟨r, h1, h2, h3, h4, h5, h6, h7, h8⟩ := hx
    exact ⟨r, by rw [hb]; exact h1, h2, h3, h4, h5, fun t ht => (h6 t ht).ext h, by rw [h.tr]; exact h7, by rw [h.tr]; exact h8⟩

/-- How a state lies in a context. -/
structure Rel (K : Ctx) (σ : St) : Prop where
  bd : ∀ i, K.bd i ↔ i.o < σ.next ∧ i.v ≤ σ.ver i.o
  inj : ∀ i j b d d', K.mu i = some (b, d) → K.mu j = some (b, d') → i = j
  lt : ∀ i b d, K.mu i = some (b, d) → b < K.w.heap.size
  mubd : ∀ i p, K.mu i = some p → K.bd i
  fm : ∀ i b d, K.mu i = some (b, d) → ¬ K.fm b
  fmlt : ∀ b, K.fm b → b < K.w.heap.size
  blk : ∀ i x, σ.heap i = some x → ∃ b d, K.mu i = some (b, d) ∧ BlkR K b d x

/-- The state in another context in which no block was written. -/
theorem Rel.keep {K K' : Ctx} {σ : St} (h : Rel K σ) (e : Ext K K') (hmu : K'.mu = K.mu) (hbd : ∀ i, K'.bd i ↔ K.bd i) (hfm : ∀ b, K'.fm b ↔ K.fm b)
    (hw : ∀ b, b < K.w.heap.size → K'.w.heap[b]? = K.w.heap[b]?) : Rel K' σ where
  bd i := by rw [hbd]; exact h.bd i
  inj := by rw [hmu]; exact h.inj
  lt i b d hm := Nat.lt_of_lt_of_le (h.lt i b d (hmu ▸ hm)) e.size
  mubd i p hm := (hbd i).2 (h.mubd i p (hmu ▸ hm))
  fm i b d hm hf := h.fm i b d (hmu ▸ hm) ((hfm b).1 hf)
  fmlt b hf := Nat.lt_of_lt_of_le (h.fmlt b ((hfm b).1 hf)) e.size
  blk i x hx := by
    obtain ⟨b, d, h1, h2⟩ := h.blk i x hx
    exact ⟨b, d, by rw [hmu]; exact h1, h2.ext e (hw b (h.lt i b d h1))⟩

end Go.Vm
