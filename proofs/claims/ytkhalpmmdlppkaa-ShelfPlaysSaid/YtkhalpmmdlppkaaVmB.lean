/-
  THE GENERIC LAYER 'Vm', part B: the small language and its interpreter.
-/
import Derived.Test.YtkhalpmmdlppkaaVmA
import Derived.Laws.Entries
namespace Go.Vm

/-! ### values -/

def AV.cells : AV → List AV
  | .agg cs => cs
  | v => [v]

def asNat : AV → Option Nat
  | .int _ n => if 0 ≤ n then some n.toNat else none
  | _ => none

def intOp (op : BinOp) (k : IntKind) (a b : Int) : Option AV :=
  match op with
  | .add => some (.int k (k.wrap (a + b)))
  | .sub => some (.int k (k.wrap (a - b)))
  | .mul => some (.int k (k.wrap (a * b)))
  | .quo => if b = 0 then none else some (.int k (k.wrap (a.tdiv b)))
  | .rem => if b = 0 then none else some (.int k (a.tmod b))
  | .and => some (.int k (bits .and k a b))
  | .or => some (.int k (bits .or k a b))
  | .xor => some (.int k (bits .xor k a b))
  | .andNot => some (.int k (bits .andNot k a b))
  | .eql => some (.bool (decide (a = b)))
  | .neq => some (.bool (!decide (a = b)))
  | .lss => some (.bool (decide (a < b)))
  | .leq => some (.bool (decide (a ≤ b)))
  | .gtr => some (.bool (decide (b < a)))
  | .geq => some (.bool (decide (b ≤ a)))
  | _ => none

def shiftOp (op : BinOp) (k : IntKind) (a b : Int) : Option AV :=
  if b < 0 then none else
  match op with
  | .shl => some (.int k (k.wrap (a * 2 ^ (min b.toNat k.bits))))
  | .shr => some (.int k (a.fdiv (2 ^ (min b.toNat k.bits))))
  | _ => none

def strOp (op : BinOp) (a b : List UInt8) : Option AV :=
  match op with
  | .add => if a.length + b.length ≤ 9223372036854775807 then some (.str (a ++ b)) else none
  | .eql => some (.bool (decide (a = b)))
  | .neq => some (.bool (!decide (a = b)))
  | .lss => some (.bool (Op.bytesLess a b))
  | .leq => some (.bool (Op.bytesLess a b || decide (a = b)))
  | .gtr => some (.bool (!(Op.bytesLess a b || decide (a = b))))
  | .geq => some (.bool (!Op.bytesLess a b))
  | _ => none

def binOp (op : BinOp) (x y : AV) : Option AV :=
  match x, y with
  | .int k a, .int k' b =>
    match op with
    | .shl | .shr => shiftOp op k a b
    | _ => if k = k' then intOp op k a b else none
  | .str a, .str b => strOp op a b
  | _, _ => none

def unOp (op : UnOp) (x : AV) : Option AV :=
  match op, x with
  | .neg, .int k n => some (.int k (k.wrap (0 - n)))
  | .xor, .int k n => some (.int k (bits .xor k (if k.signed then -1 else k.max) n))
  | .not, .bool b => some (.bool !b)
  | _, _ => none

def part (agg : Bool) (n off : Nat) (cs : List AV) : Option AV :=
  if off + n ≤ cs.length then (if agg then some (.agg ((cs.drop off).take n)) else cs[off]?) else none

def isSt : EqT → Bool
  | .st _ => true
  | _ => false

mutual
def eqv : EqT → AV → AV → Option Bool
  | .int, .int k a, .int k' b => if k = k' then some (decide (a = b)) else none
  | .bool, .bool a, .bool b => some (a == b)
  | .str, .str a, .str b => some (decide (a = b))
  | .nil .p, .nilp, .nilp | .nil .s, .nilsl, .nilsl | .nil .m, .nilm, .nilm | .nil .f, .nilFunc, .nilFunc | .nil .i, .nilIface, .nilIface => some true
  | .nil .p, .nilp, .ptr .. | .nil .p, .nilp, .iptr .. | .nil .p, .ptr .., .nilp | .nil .p, .iptr .., .nilp => some false
  | .nil .s, .nilsl, .esl | .nil .s, .nilsl, .sl .. | .nil .s, .esl, .nilsl | .nil .s, .sl .., .nilsl => some false
  | .nil .s, .nilsl, .isl _ _ n _ | .nil .s, .isl _ _ n _, .nilsl => if n = 0 then none else some false
  | .nil .m, .nilm, .map _ | .nil .m, .nilm, .imap .. | .nil .m, .map _, .nilm | .nil .m, .imap .., .nilm => some false
  | .nil .f, .nilFunc, .func .. | .nil .f, .func .., .nilFunc => some false
  | .nil .i, .nilIface, .iface .. | .nil .i, .iface .., .nilIface => some false
  | .st fs, .agg xs, .agg ys => eqvL fs xs ys
  | _, _, _ => none
def eqvL : List (Nat × Nat × EqT) → List AV → List AV → Option Bool
  | [], _, _ => some true
  | (off, n, t) :: fs, xs, ys =>
    match part (isSt t) n off xs, part (isSt t) n off ys with
    | some x, some y =>
      match eqv t x y with
      | some true => eqvL fs xs ys
      | some false => some false
      | none => none
    | _, _ => none
end

/-! ### memory -/

def St.alloc (σ : St) (b : Blk) : Id × St := (⟨σ.next, 0, 0⟩, { (σ.set ⟨σ.next, 0, 0⟩ (some b)) with next := σ.next + 1 })

def newCells (σ : St) (cs : List AV) : Option (Id × St) := if cs.all AV.isCell then some (σ.alloc (.cells cs)) else none

def splice (cs : List AV) (off : Nat) (vs : List AV) : List AV := cs.take off ++ (vs ++ cs.drop (off + vs.length))

def loadAt (σ : St) (agg : Bool) (n : Nat) : AV → Option AV
  | .ptr i off => (σ.get i).bind (part agg n off)
  | .iptr _ cs off => part agg n off cs
  | _ => none

def storeCells (σ : St) (i : Id) (off : Nat) (vs : List AV) : Option St :=
  match σ.get i with
  | some cs => if off + vs.length ≤ cs.length ∧ vs.all AV.isCell = true then some (σ.set i (some (.cells (splice cs off vs)))) else none
  | none => none

def storeAt (σ : St) (n : Nat) (a v : AV) : Option St :=
  match a with
  | .ptr i off => if v.cells.length = n then storeCells σ i off v.cells else none
  | _ => none

def fill (ρ : Env) : List AV → List (Nat × Nat × Arg) → Option (List AV)
  | cs, [] => some cs
  | cs, (off, n, x) :: rest =>
    let vs := (x.get ρ).cells
    if vs.length = n ∧ off + n ≤ cs.length ∧ vs.all AV.isCell = true then fill ρ (splice cs off vs) rest else none

/-- The cells of a slice's elements, so many. -/
def elems (σ : St) (sz n : Nat) : AV → Option (List AV)
  | .nilsl | .esl => if n * sz = 0 then some [] else none
  | .sl i off _ _ _ => (σ.get i).bind fun cs => if off + n * sz ≤ cs.length then some ((cs.drop off).take (n * sz)) else none
  | .isl _ cs _ _ => if n * sz ≤ cs.length then some (cs.take (n * sz)) else none
  | .str s => if sz = 1 ∧ n ≤ s.length then some ((s.take n).map fun b => .int .u8 b.toNat) else none
  | _ => none

def lenOf : AV → Option Nat
  | .nilsl | .esl => some 0
  | .sl _ _ n _ _ => some n
  | .isl _ _ n _ => some n
  | .str s => some s.length
  | _ => none

def byteOf : AV → Option UInt8
  | .int .u8 n => some (UInt8.ofNat n.toNat)
  | _ => none

/-- The bounds of x[lo:hi:mx], as numbers. -/
def bnd (ρ : Env) (x : Option Arg) (most dflt : Nat) : Option Nat :=
  match x with
  | none => some dflt
  | some a => match asNat (a.get ρ) with | some n => if n ≤ most then some n else none | none => none

def growMax : Nat := 2 ^ 48
def lenMax : Nat := 2 ^ 46

def Cap.room : Cap → Nat
  | .ex c => c
  | .ge c => c
def Cap.cut : Cap → Bool → Nat → Nat → Cap
  | .ge c, false, _, l => .ge (c - l)
  | _, _, m, l => .ex (m - l)
def cutI : Option Nat → Bool → Nat → Nat → Option Nat
  | none, false, _, _ => none
  | _, _, m, l => some (m - l)

/-- A slice's bytes, or a string's. -/
def bytesIn (σ : St) : AV → Option (List UInt8)
  | .str s => some s
  | v => match lenOf v with
    | some n => (elems σ 1 n v).bind fun cs => cs.mapM byteOf
    | none => none

def AV.noIsl : AV → Bool
  | .isl .. => false
  | _ => true

def appendTo (σ : St) (sz bytes n : Nat) (xs : List AV) : AV → Option (AV × St)
  | .nilsl => if n = 0 then some (.nilsl, σ) else
      if n * bytes ≤ growMax then (newCells σ xs).map fun (i, σ') => (.sl i 0 n (.ge n) sz, σ') else none
  | .esl => if n = 0 then some (.esl, σ) else none
  | .isl f cs len cap =>
    if n = 0 then some (.isl f cs len cap, σ) else
    match cap with
    | some c => if c < len + n ∧ len * sz ≤ cs.length ∧ Builtin.nextslicecap (len + n) c * bytes ≤ growMax then
        (newCells σ (cs.take (len * sz) ++ xs)).map fun (i, σ') => (.sl i 0 (len + n) (.ge (len + n)) sz, σ') else none
    | none => none
  | .sl i off len cap sz' =>
    match σ.get i with
    | none => none
    | some cs =>
      if sz' ≠ sz then none else
      if len + n ≤ cap.room then
        (storeCells σ i (off + len * sz) xs).map fun σ' => (.sl i off (len + n) cap sz, σ')
      else if off + len * sz ≤ cs.length ∧ (len + n) * bytes ≤ lenMax then
        match cap with
        | .ex _ => (newCells σ ((cs.drop off).take (len * sz) ++ xs)).map fun (j, σ') => (.sl j 0 (len + n) (.ge (len + n)) sz, σ')
        | .ge _ => (newCells (σ.set i none) ((cs.drop off).take (len * sz) ++ xs)).map fun (j, σ') => (.sl j 0 (len + n) (.ge (len + n)) sz, σ')
      else none
  | _ => none

def sliceSl (sz : Nat) (x : AV) (lo hi mx : Option Arg) (ρ : Env) : Option AV :=
  match x with
  | .nilsl => (bnd ρ hi 0 0).bind fun h => (bnd ρ lo 0 0).bind fun _ => if h = 0 ∧ mx.isNone then some .nilsl else none
  | .sl i off len cap sz' =>
    if sz' ≠ sz then none else
    (bnd ρ mx cap.room cap.room).bind fun m => (bnd ρ hi m len).bind fun h => (bnd ρ lo h 0).bind fun l =>
      if h ≤ m then
        if l = 0 then some (.sl i off h (cap.cut mx.isSome m 0) sz) else
        if l = m then some .esl else some (.sl i (off + l * sz) (h - l) (cap.cut mx.isSome m l) sz)
      else none
  | .isl f cs len cap =>
    (bnd ρ mx (cap.getD len) (cap.getD len)).bind fun m => (bnd ρ hi m len).bind fun h => (bnd ρ lo h 0).bind fun l =>
      if h * sz ≤ cs.length ∧ h ≤ m ∧ 0 < sz then some (.isl f ((cs.drop (l * sz)).take ((h - l) * sz)) (h - l) (cutI cap mx.isSome m l)) else none
  | _ => none

def hasRoom (σ : St) (i : Id) (n : Nat) : Bool :=
  match σ.get i with
  | some cs => decide (n ≤ cs.length)
  | none => false

def cutArr (σ : St) (n sz l h m : Nat) : AV → Option AV
  | .ptr i off => if hasRoom σ i (off + n * sz) = true then if l = 0 then some (.sl i off h (.ex m) sz) else if l = m then some .esl else some (.sl i (off + l * sz) (h - l) (.ex (m - l)) sz) else none
  | .iptr f cs off => if off + h * sz ≤ cs.length then some (.isl f ((cs.drop (off + l * sz)).take ((h - l) * sz)) (h - l) (some (m - l))) else none
  | _ => none

def sliceArr (σ : St) (n sz : Nat) (x : AV) (lo hi mx : Option Arg) (ρ : Env) : Option AV :=
  (bnd ρ mx n n).bind fun m => (bnd ρ hi m n).bind fun h => (bnd ρ lo h 0).bind fun l =>
  if h ≤ m then cutArr σ n sz l h m x else none

def sliceStr (s : List UInt8) (lo hi : Option Arg) (ρ : Env) : Option AV :=
  (bnd ρ hi s.length s.length).bind fun h => (bnd ρ lo h 0).bind fun l => some (.str ((s.drop l).take (h - l)))

def findKey (kt : EqT) (k : AV) : List AV → Nat → Option (Option Nat)
  | [], _ => some none
  | x :: xs, i => match eqv kt k x with
    | some true => some (some i)
    | some false => findKey kt k xs (i + 1)
    | none => none

/-- The place of a key that is one of its kind. -/
def findIn (kt : EqT) (k : AV) (ks : List AV) : Option (Option Nat) := if eqv kt k k = some true then findKey kt k ks 0 else none

/-- Two keys that are the same, cell for cell. -/
def sameKey : AV → AV → Bool
  | .int k a, .int k' b => decide (k = k') && decide (a = b)
  | .bool a, .bool b => a == b
  | .str a, .str b => decide (a = b)
  | .agg as, .agg bs => sameKeys as bs
  | _, _ => false
where sameKeys : List AV → List AV → Bool
  | [], [] => true
  | a :: as, b :: bs => sameKey a b && sameKeys as bs
  | _, _ => false

def mapOf (σ : St) : AV → Option (List AV × List AV)
  | .nilm => some ([], [])
  | .map i => match σ.heap i with | some (.map ks vs) => some (ks, vs) | _ => none
  | .imap _ ks vs => some (ks, vs)
  | _ => none

def minmaxL (mx : Bool) : AV → List AV → Option AV
  | x, [] => some x
  | .int k a, .int k' b :: rest => if k = k' then minmaxL mx (.int k (if mx then (if b > a then b else a) else (if b < a then b else a))) rest else none
  | _, _ => none

def addOff (n : Nat) : AV → Option AV
  | .ptr i o => some (.ptr i (o + n))
  | .iptr f cs o => some (.iptr f cs (o + n))
  | _ => none

def elemPtr (sz k : Nat) : AV → Option AV
  | .sl j o n _ _ => if k < n then some (.ptr j (o + k * sz)) else none
  | .isl f cs n _ => if k < n ∧ cs ≠ [] then some (.iptr f cs (k * sz)) else none
  | _ => none

def copyTo (σ : St) (n : Nat) (xs : List AV) : AV → Option (AV × St)
  | .nilsl | .esl => some (.int .i64 n, σ)
  | .sl i off _ _ _ => (storeCells σ i off xs).map fun σ' => (.int .i64 n, σ')
  | .isl .. => if n = 0 then some (.int .i64 n, σ) else none
  | _ => none

def lenIn (σ : St) : LK → AV → Option Nat
  | .str, .str s => some s.length
  | .sl, .nilsl | .sl, .esl => some 0
  | .sl, .sl _ _ n _ _ => some n
  | .sl, .isl _ _ n _ => some n
  | .map, .nilm => some 0
  | .map, .map i => match σ.heap i with | some (.map ks _) => some ks.length | _ => none
  | .map, .imap _ ks _ => some ks.length
  | _, _ => none

/-- A method's receiver: the value, or what it points to. -/
def recv (σ : St) (d : Option (Bool × Nat)) (v : AV) : Option AV :=
  match d with
  | none => some v
  | some (agg, n) => loadAt σ agg n v

/-- How functions are called, and rounds of a loop over a function. -/
structure CallH where
  fn : FuncId → List AV → St → Option (AV × St)
  yl : Id → List AV → St → Option (AV × St)
instance : CoeFun CallH (fun _ => FuncId → List AV → St → Option (AV × St)) := ⟨CallH.fn⟩

def ret1 (σ : St) (x : Option AV) : Option (AV × St) := x.map fun v => (v, σ)

def Ins.ev (E : CallH) (ρ : Env) (σ : St) : Ins → Option (AV × St)
  | .mv x => some (x.get ρ, σ)
  | .convId x => match x.get ρ with | .str s => some (.str s, σ) | _ => none
  | .convSl x => match x.get ρ with | .sl i o n c z => (σ.get i).map fun _ => (.sl i o n c z, σ) | _ => none
  | .pick c a b => match c.get ρ with | .bool t => some (if t then a.get ρ else b.get ρ, σ) | _ => none
  | .alloc zero => (newCells σ zero).map fun (i, σ') => (.ptr i 0, σ')
  | .box x => (newCells σ (x.get ρ).cells).map fun (i, σ') => (.ptr i 0, σ')
  | .build zero parts => (fill ρ zero parts).map fun cs => (.agg cs, σ)
  | .buildSl n sz zero parts => (fill ρ zero parts).bind fun cs => (newCells σ cs).map fun (i, σ') => (.sl i 0 n (.ex n) sz, σ')
  | .load agg n a => ret1 σ (loadAt σ agg n (a.get ρ))
  | .store n a v => (storeAt σ n (a.get ρ) (v.get ρ)).map fun σ' => (.tup [], σ')
  | .nilCk x => match x.get ρ with | .ptr i o => some (.ptr i o, σ) | .iptr f cs o => some (.iptr f cs o, σ) | .iface t v => some (.iface t v, σ) | .func (.func f) a b => some (.func (.func f) a b, σ) | _ => none
  | .bin op x y => ret1 σ (binOp op (x.get ρ) (y.get ρ))
  | .eq neg t x y => (eqv t (x.get ρ) (y.get ρ)).map fun b => (.bool (if neg then !b else b), σ)
  | .un op x => ret1 σ (unOp op (x.get ρ))
  | .convInt k x => match x.get ρ with | .int _ n => some (.int k (k.wrap n), σ) | _ => none
  | .idxB x c => match bytesIn σ (x.get ρ), c.get ρ with
    | some s, .int .u8 n => some (.int .i64 (Lib.indexByte s n.toNat.toUInt8), σ)
    | _, _ => none
  | .cmpB x y => match bytesIn σ (x.get ρ), bytesIn σ (y.get ρ) with
    | some s, some t => some (.int .i64 (Lib.compareBytes s t), σ)
    | _, _ => none
  | .strOf x => match x.get ρ with
    | .str _ => none
    | v => match lenOf v with
      | some n => (elems σ 1 n v).bind fun cs => (cs.mapM byteOf).map fun s => (.str s, σ)
      | none => none
  | .bytesOf x => match x.get ρ with
    | .str s => if s.length ≤ lenMax then (newCells σ (s.map fun b => .int .u8 b.toNat)).map fun (i, σ') => (.sl i 0 s.length (.ge s.length) 1, σ') else none
    | _ => none
  | .arrOf n sz x => match x.get ρ with
    | .sl i off m _ _ => if n ≤ m then some (.ptr i off, σ) else none
    | .isl f cs m _ => if n ≤ m ∧ n * sz ≤ cs.length ∧ 0 < n * sz then some (.iptr f cs 0, σ) else none
    | _ => none
  | .mkIface t x => some (.iface t (x.get ρ), σ)
  | .mkFunc fn first capt => some (.func fn (first.map (Arg.get ρ)) (capt.map (Arg.get ρ)), σ)
  | .makeSl sz bytes zero ln cp =>
    match asNat (ln.get ρ), asNat (cp.get ρ) with
    | some l, some c => if l ≤ c ∧ c * bytes ≤ growMax ∧ zero.length = sz then
        (newCells σ ((List.replicate c zero).flatten)).map fun (i, σ') => (.sl i 0 l (.ex c) sz, σ') else none
    | _, _ => none
  | .slStr x lo hi => match x.get ρ with | .str s => ret1 σ (sliceStr s lo hi ρ) | _ => none
  | .slSl sz x lo hi mx => ret1 σ (sliceSl sz (x.get ρ) lo hi mx ρ)
  | .slArr n sz x lo hi mx => ret1 σ (sliceArr σ n sz (x.get ρ) lo hi mx ρ)
  | .faddr off x => ret1 σ (addOff off (x.get ρ))
  | .fld off agg n x => match x.get ρ with | .agg cs => ret1 σ (part agg n off cs) | _ => none
  | .iaArr n sz x i => match asNat (i.get ρ) with
    | some k => if k < n then ret1 σ (addOff (k * sz) (x.get ρ)) else none
    | none => none
  | .iaSl sz x i => match asNat (i.get ρ) with
    | some k => ret1 σ (elemPtr sz k (x.get ρ))
    | none => none
  | .ixArr n sz agg x i => match asNat (i.get ρ), x.get ρ with
    | some k, .agg cs => if k < n then ret1 σ (part agg sz (k * sz) cs) else none
    | _, _ => none
  | .ixStr x i => match asNat (i.get ρ), x.get ρ with
    | some k, .str s => (s[k]?).map fun b => (.int .u8 b.toNat, σ)
    | _, _ => none
  | .ext i x => match x.get ρ with | .tup vs => (vs[i]?).map fun v => (v, σ) | _ => none
  | .len k x => (lenIn σ k (x.get ρ)).map fun n => (.int .i64 (n : Nat), σ)
  | .konst n => some (.int .i64 n, σ)
  | .capOf x => match x.get ρ with
    | .nilsl => some (.int .i64 0, σ)
    | .sl _ _ _ (.ex c) _ => some (.int .i64 c, σ)
    | .isl _ _ _ (some c) => some (.int .i64 c, σ)
    | _ => none
  | .append sz bytes s x => match lenOf (x.get ρ) with
    | some n => (elems σ sz n (x.get ρ)).bind fun xs => appendTo σ sz bytes n xs (s.get ρ)
    | none => none
  | .appendZ sz bytes zero s x => match asNat (x.get ρ) with
    | some n => if n * bytes ≤ growMax ∧ zero.length = sz ∧ (s.get ρ).noIsl = true then appendTo σ sz bytes n ((List.replicate n zero).flatten) (s.get ρ) else none
    | none => none
  | .copy sz d s => match lenOf (d.get ρ), lenOf (s.get ρ) with
    | some dl, some sl => (elems σ sz (min sl dl) (s.get ρ)).bind fun xs => copyTo σ (min sl dl) xs (d.get ρ)
    | _, _ => none
  | .minmax mx args => match args with
    | [] => none
    | x :: rest => ret1 σ (minmaxL mx (x.get ρ) (rest.map (Arg.get ρ)))
  | .makeMap => let (i, σ') := σ.alloc (.map [] []); some (.map i, σ')
  | .lookup kt zero ok m k => (mapOf σ (m.get ρ)).bind fun (ks, vs) =>
    (findIn kt (k.get ρ) ks).bind fun r =>
      match r with
      | some j => (vs[j]?).map fun v => (if ok then .tup [v, .bool true] else v, σ)
      | none => some (if ok then .tup [zero, .bool false] else zero, σ)
  | .mapUpd kt m k v => match m.get ρ with
    | .map i => match σ.heap i with
      | some (.map ks vs) => (findIn kt (k.get ρ) ks).bind fun r =>
        match r with
        | some j => if sameKey (ks.getD j .nilp) (k.get ρ) = true then some (.tup [], σ.set i (some (.map ks (vs.set j (v.get ρ))))) else none
        | none => some (.tup [], σ.set i (some (.map (ks ++ [k.get ρ]) (vs ++ [v.get ρ]))))
      | _ => none
    | _ => none
  | .delete kt m k => match m.get ρ with
    | .map i => match σ.heap i with
      | some (.map ks vs) => (findIn kt (k.get ρ) ks).bind fun r =>
        match r with
        | some j => some (.tup [], σ.set i (some (.map (ks.eraseIdx j) (vs.eraseIdx j))))
        | none => some (.tup [], σ)
      | _ => none
    | _ => none
  | .tassert t ok zero x => match x.get ρ with
    | .iface u v => if u = t then some (if ok then .tup [v, .bool true] else v, σ) else if ok then some (.tup [zero, .bool false], σ) else none
    | .nilIface => if ok then some (.tup [zero, .bool false], σ) else none
    | _ => none
  | .call f args => E f (args.map (Arg.get ρ)) σ
  | .callV x args => match x.get ρ with
    | .func (.func f) first capt => E f (first ++ args.map (Arg.get ρ) ++ capt) σ
    | .yld i => E.yl i (args.map (Arg.get ρ)) σ
    | _ => none
  | .invoke tbl x args => match x.get ρ with
    | .iface t v => match tbl.lookup t with | some (d, f) => (recv σ d v).bind fun r => E f (r :: args.map (Arg.get ρ)) σ | none => none
    | _ => none
  | .no => none

def wanted (ρ : Env) : Option (Nat × Bool) → Bool
  | none => true
  | some (t, b) => match ρ t with | .bool c => c == b | _ => false

def Op.ev (E : CallH) (o : Op) (ρ : Env) (σ : St) : Option (Env × St) :=
  if wanted ρ o.guard then (o.ins.ev E ρ σ).map fun (v, σ') => (ρ.put o.dst v, σ') else some (ρ.put o.dst (.tup []), σ)

def opsEv (E : CallH) : List Op → Env → St → Option (Env × St)
  | [], ρ, σ => some (ρ, σ)
  | o :: l, ρ, σ => match o.ev E ρ σ with
    | some (ρ', σ') => opsEv E l ρ' σ'
    | none => none

end Go.Vm
