/-
  THE GENERIC LAYER 'Vm', part C: regions whose order is open, code, calls.
-/
import Derived.Test.YtkhalpmmdlppkaaVmB
namespace Go.Vm
open Classical

inductive RV where
  | tmp (t : Nat)
  | cell (t : Nat) (agg : Bool) (n : Nat)

/-- How a function is called: in the caller's heap; over a picture of what it is handed; over some objects alone, which are laid anew behind it; as it is known from elsewhere. -/
inductive Hint where
  | raw
  | pure
  | mut (fp : List (Nat × List Nat)) (new : Option (Option Nat))
  | known (g : List AV → Option AV)

structure FnI where
  nt : Nat
  np : Nat
  code : C
  res : List RV
  hint : Hint

abbrev Table := FuncId → Option FnI

/-! ### regions whose order is open -/

def optL : Option Arg → List Arg
  | some a => [a]
  | none => []

def Ins.args : Ins → List Arg
  | .mv x | .convId x | .convSl x | .box x | .load _ _ x | .nilCk x | .un _ x | .convInt _ x | .strOf x | .bytesOf x | .arrOf _ _ x | .mkIface _ x | .faddr _ x | .fld _ _ _ x
  | .ext _ x | .len _ x | .capOf x | .tassert _ _ _ x => [x]
  | .pick c a b => [c, a, b]
  | .alloc _ | .konst _ | .makeMap | .no => []
  | .build _ ps | .buildSl _ _ _ ps => ps.map (·.2.2)
  | .store _ a v => [a, v]
  | .bin _ x y | .eq _ _ x y | .iaArr _ _ x y | .iaSl _ x y | .ixArr _ _ _ x y | .ixStr x y | .cmpB x y | .idxB x y | .append _ _ x y | .appendZ _ _ _ x y | .copy _ x y | .lookup _ _ _ x y | .delete _ x y => [x, y]
  | .makeSl _ _ _ a b => [a, b]
  | .mkFunc _ a b => a ++ b
  | .slStr x lo hi => x :: (optL lo ++ optL hi)
  | .slSl _ x lo hi mx | .slArr _ _ x lo hi mx => x :: (optL lo ++ (optL hi ++ optL mx))
  | .minmax _ as => as
  | .mapUpd _ m k v => [m, k, v]
  | .call _ as => as
  | .callV x as | .invoke _ x as => x :: as

def Op.reads (o : Op) : List Nat :=
  (o.ins.args.filterMap fun | .t n => some n | _ => none) ++ (match o.guard with | some (t, _) => [t] | none => [])

/-- Does it touch nothing but slots? -/
def Ins.still : Ins → Bool
  | .mv _ | .convId _ | .nilCk _ | .un _ _ | .convInt _ _ | .arrOf _ _ _ | .mkIface _ _ | .faddr _ _ | .fld _ _ _ _ | .ext _ _ | .capOf _ | .tassert _ _ _ _ | .pick _ _ _
  | .konst _ | .build _ _ | .bin _ _ _ | .eq _ _ _ _ | .iaArr _ _ _ _ | .iaSl _ _ _ | .ixArr _ _ _ _ _ | .ixStr _ _ | .mkFunc _ _ _ | .slStr _ _ _ | .slSl _ _ _ _ _
  | .minmax _ _ => true
  | _ => false

/-- Does it leave the heap alone? -/
def Ins.look (T : Table) : Ins → Bool
  | .load .. | .strOf _ | .cmpB _ _ | .idxB _ _ | .len .. | .lookup .. | .slArr .. => true
  | .call f _ => match T f with | some fi => (match fi.hint with | .pure => true | _ => false) | none => false
  | i => i.still

structure Tr where
  ρ : Env
  σ : St
  v : AV

/-- The run in the order of the text, and what each one met and made. -/
def trace (E : CallH) : List DOp → Env → St → Option (List Tr × Env × St)
  | [], ρ, σ => some ([], ρ, σ)
  | o :: l, ρ, σ =>
    if wanted ρ o.op.guard then
      match o.op.ins.ev E ρ σ with
      | some (v, σ') => match trace E l (ρ.put o.op.dst v) σ' with
        | some (ts, r) => some (⟨ρ, σ, v⟩ :: ts, r)
        | none => none
      | none => none
    else match trace E l (ρ.put o.op.dst (.tup [])) σ with
      | some (ts, r) => some (⟨ρ, σ, .tup []⟩ :: ts, r)
      | none => none

def natsNodup : List Nat → Bool
  | [] => true
  | x :: l => !l.contains x && natsNodup l

/-- What is asked of the region's text. -/
def drawOk (T : Table) (l : List DOp) : Bool :=
  natsNodup (l.filterMap fun o => o.op.dst) &&
  (l.zipIdx.all fun (o, i) => o.pre.all (· < i) && l.zipIdx.all fun (p, j) =>
    -- who writes what another reads stands in order with it
    (match p.op.dst with | some d => if o.op.reads.contains d then j != i && (o.pre.contains j || p.pre.contains i) else true | none => true) &&
    -- what is not still and not a look stands in order
    (if j < i && !p.op.ins.look T && !o.op.ins.look T then o.pre.contains j else true) &&
    -- the order is closed
    (if o.pre.contains j then p.pre.all o.pre.contains else true))

/-- May op i run where just the loud ones below k have run? -/
def mayAt (T : Table) (l : List DOp) (i k : Nat) : Bool :=
  match l[i]? with
  | some o => l.zipIdx.all fun (p, j) => p.op.ins.look T || (if j < k then !p.pre.contains i else !o.pre.contains j)
  | none => false

def looksOk (E : CallH) (T : Table) (l : List DOp) (ts : List Tr) (σn : St) : Prop :=
  ∀ i o t, l[i]? = some o → ts[i]? = some t → o.op.ins.look T = true → o.op.ins.still = false → wanted t.ρ o.op.guard = true →
    ∀ k s, (if k = l.length then some σn else (ts[k]?).map Tr.σ) = some s → mayAt T l i k = true → o.op.ins.ev E t.ρ s = some (t.v, s)

noncomputable def drawEv (E : CallH) (T : Table) (l : List DOp) (ρ : Env) (σ : St) : Option (Env × St) :=
  match trace E l ρ σ with
  | some (ts, ρ', σ') => if drawOk T l = true ∧ looksOk E T l ts σ' then some (ρ', σ') else none
  | none => none

/-! ### code -/

def emptySt : St := ⟨fun _ => none, 0, fun _ => 0⟩

def snap (σ : St) : Nat → AV → Option AV
  | 0, _ => none
  | k + 1, v => match v with
    | .ptr i off => (σ.get i).bind fun cs => (cs.mapM (snap σ k)).map fun cs' => .iptr true cs' off
    | .sl i off len _ sz => (σ.get i).bind fun cs => if off + len * sz ≤ cs.length then (((cs.drop off).take (len * sz)).mapM (snap σ k)).map fun cs' => .isl true cs' len none else none
    | .map i => match σ.heap i with
      | some (.map ks vs) => (ks.mapM (snap σ k)).bind fun ks' => (vs.mapM (snap σ k)).map fun vs' => .imap true ks' vs'
      | _ => none
    | .agg cs => (cs.mapM (snap σ k)).map .agg
    | .tup cs => (cs.mapM (snap σ k)).map .tup
    | .iface t v => (snap σ k v).map (.iface t)
    | .func fn a b => (a.mapM (snap σ k)).bind fun a' => (b.mapM (snap σ k)).map fun b' => .func fn a' b'
    | .nilsl | .esl => some (.isl false [] 0 none)
    | .isl f cs len _ => some (.isl f cs len none)
    | .yld _ => none
    | v => some v

/-- A result made immutable; 'ok': pointers that may stand in it outside of slices. -/
def frz (σ : St) (base : Nat) (used : List Id) : Nat → (Id → Nat → Bool) → AV → Option AV
  | 0, _, _ => none
  | k + 1, ok, v => match v with
    | .ptr i off => if ok i off then some (.ptr i off) else none
    | .sl i off len _ sz => if base ≤ i.o ∧ ¬ i ∈ used then
        (σ.get i).bind fun cs => if off + len * sz ≤ cs.length then (((cs.drop off).take (len * sz)).mapM (frz σ base used k fun _ _ => false)).map fun cs' => .isl false cs' len none else none
      else none
    | .map _ | .imap .. | .yld _ => none
    | .iptr f cs off => if f then none else some (.iptr f cs off)
    | .isl f cs len _ => if f then none else some (.isl f cs len none)
    | .agg cs => (cs.mapM (frz σ base used k ok)).map .agg
    | .tup cs => (cs.mapM (frz σ base used k ok)).map .tup
    | .iface t v => (frz σ base used k ok v).map (.iface t)
    | .func fn a b => (a.mapM (frz σ base used k ok)).bind fun a' => (b.mapM (frz σ base used k ok)).map fun b' => .func fn a' b'
    | .nilsl | .esl => some (.isl false [] 0 none)
    | v => some v

def depth : Nat := 7

def initEnv (args : List AV) : Env := fun t => args.getD t (.tup [])

def resultOf (σ : St) (ρ : Env) : List RV → Option (List AV)
  | [] => some []
  | .tmp t :: l => (resultOf σ ρ l).map (ρ t :: ·)
  | .cell t agg n :: l => (loadAt σ agg n (ρ t)).bind fun v => (resultOf σ ρ l).map (v :: ·)

def result (σ : St) (ρ : Env) (l : List RV) : Option AV :=
  match resultOf σ ρ l with
  | some [v] => some v
  | some vs => some (.tup vs)
  | none => none

abbrev Runner := C → Env → St → Option (Ex × Env × St)

def bodyOf (R : Runner) (fi : FnI) (args : List AV) (σ : St) : Option (AV × St) :=
  if args.length = fi.np then
    match R fi.code (initEnv args) σ with
    | some (.normal, ρ, σ') | some (.ret, ρ, σ') => (result σ' ρ fi.res).map fun v => (v, σ')
    | _ => none
  else none

def pureOf (R : Runner) (fi : FnI) (args : List AV) : Option AV :=
  match bodyOf R fi args emptySt with
  | some (r, σ1) => frz σ1 0 [] depth (fun _ _ => false) r
  | none => none

/-! Objects: a footprint, and how an object is laid anew. -/

def walkTo (σ : St) : AV → List Nat → Option Id
  | .ptr i 0, [] => some i
  | .ptr i 0, off :: path => (σ.get i).bind fun cs => (cs[off]?).bind fun v => walkTo σ v path
  | _, _ => none

def footOf (σ : St) (args : List AV) (fp : List (Nat × List Nat)) : Option (List Nat) :=
  some (fp.filterMap fun (k, path) => (args[k]?).bind fun v => (walkTo σ v path).bind fun i => if i.k = 0 ∧ i.v = 0 then some i.o else none)

def St.only (σ : St) (O : List Nat) : St := { σ with heap := fun i => if i.o ∈ O then σ.heap i else none }

def St.putObj (σ : St) (o v : Nat) (bs : List (Nat × Blk)) : St :=
  { σ with heap := fun i => if i.o = o then (if i.v = (if i.k = 0 then 0 else v) then bs.lookup i.k else none) else σ.heap i }

def St.bump (σ : St) (O : List Nat) : St := { σ with ver := fun o => if o ∈ O then σ.ver o + 1 else σ.ver o }

def refId : AV → Option Id
  | .sl i _ _ _ _ => some i
  | .map i => some i
  | _ => none

/-- A cell that is laid anew: its block has the new name. -/
def reCell (o v k : Nat) : AV → AV
  | .sl _ off len cap sz => .sl ⟨o, k + 1, v⟩ off len cap sz
  | .map _ => .map ⟨o, k + 1, v⟩
  | c => c

def reCells (o v : Nat) : Nat → List AV → List AV
  | _, [] => []
  | k, c :: cs => reCell o v k c :: reCells o v (k + 1) cs

/-- May a cell of an object stand there behind a call? -/
def okCell (σ : St) (ok : Id → Nat → Bool) : AV → Bool
  | .sl i _ _ _ _ => match σ.get i with | some bs => bs.all (AV.flt ok) | none => false
  | .map i => match σ.heap i with | some (.map ks vs) => ks.all (AV.flt ok) && vs.all (AV.flt ok) | _ => false
  | c => c.flt ok

def ownBlks (σ : St) : Nat → List AV → List (Nat × Blk)
  | _, [] => []
  | k, c :: cs => match (refId c).bind σ.heap with
    | some x => (k + 1, x) :: ownBlks σ (k + 1) cs
    | none => ownBlks σ (k + 1) cs

/-- Object 'i' (its main block) laid as object o: its blocks, and the names that they had. -/
def layObj (σ : St) (ok : Id → Nat → Bool) (i : Id) (o v : Nat) : Option (List (Nat × Blk) × List Id) :=
  (σ.get i).bind fun cs => if cs.all (okCell σ ok) = true then some ((0, .cells (reCells o v 0 cs)) :: ownBlks σ 0 cs, i :: cs.filterMap refId) else none

def layAll (σ : St) (ok : Id → Nat → Bool) (ver : Nat → Nat) : List (Id × Nat) → Option (List (Nat × Nat × List (Nat × Blk)) × List Id)
  | [] => some ([], [])
  | (i, o) :: l => (layObj σ ok i o (ver o)).bind fun (bs, ids) => (layAll σ ok ver l).map fun (xs, ids') => ((o, ver o, bs) :: xs, ids ++ ids')

def St.putAll (σ : St) : List (Nat × Nat × List (Nat × Blk)) → St
  | [] => σ
  | (o, v, bs) :: l => (σ.putAll l).putObj o v bs

def resAt (p : Option Nat) (r : AV) : Option AV :=
  match p with
  | none => some r
  | some j => match r with | .tup vs => vs[j]? | _ => none

def newOf (new : Option (Option Nat)) (r : AV) : Option (Option Id) :=
  match new with
  | none => some none
  | some p => match resAt p r with
    | some (.ptr i 0) => some (some i)
    | some .nilp => some none
    | _ => none

def objsOf (O : List Nat) (n : Option Id) (next : Nat) : List (Id × Nat) :=
  O.map (fun o => (⟨o, 0, 0⟩, o)) ++ (match n with | some i => [(i, next)] | none => [])

def okObj (O : List Nat) : Id → Nat → Bool := fun i _ => decide (i.k = 0 ∧ i.v = 0 ∧ i.o ∈ O)

def newPtr (base : Nat) (n : Option Id) : AV :=
  match n with
  | some _ => .ptr ⟨base, 0, 0⟩ 0
  | none => .nilp

/-- The result, with the new object under its new name, all else made immutable. -/
def resOf (σ1 : St) (base : Nat) (used : List Id) (ok : Id → Nat → Bool) (new : Option (Option Nat)) (n : Option Id) (r : AV) : Option AV :=
  match new with
  | none => frz σ1 base used depth ok r
  | some none => some (newPtr base n)
  | some (some j) => match r with
    | .tup vs => (vs.zipIdx.mapM fun (v, k) => if k = j then some (newPtr base n) else frz σ1 base used depth ok v).map .tup
    | _ => none

def idsNodup : List Id → Bool
  | [] => true
  | x :: l => !l.contains x && idsNodup l

def St.but (σ : St) (O : List Nat) : St := { σ with heap := fun i => if i.o ∈ O then none else σ.heap i }

/-- What a callee over some objects is handed: a place among them, or a picture. -/
def argIn (σ : St) (O : List Nat) : AV → Option AV
  | .ptr i off => if i.o ∈ O then some (.ptr i off) else snap (σ.but O) depth (.ptr i off)
  | x => if x.nref then some x else snap (σ.but O) depth x

def mutOf (R : Runner) (fi : FnI) (fp : List (Nat × List Nat)) (new : Option (Option Nat)) (args : List AV) (σ : St) : Option (AV × St) :=
  (footOf σ args fp).bind fun O =>
  (args.mapM (argIn σ O)).bind fun args' =>
  (bodyOf R fi args' (σ.only O)).bind fun (r, σ1) =>
  (newOf new r).bind fun n =>
    (layAll σ1 (okObj O) (σ.bump O).ver (objsOf O n σ.next)).bind fun (xs, ids) =>
      if idsNodup ids = true ∧ natsNodup O = true ∧ O.all (fun o => decide (o < σ.next)) = true ∧ (∀ i, n = some i → σ.next ≤ i.o) then
        (resOf σ1 σ.next ids (okObj O) new n r).map fun r' => (r', { ((σ.putAll xs).bump O) with next := if n.isSome then σ.next + 1 else σ.next })
      else none

def putAll (ρ : Env) : List Nat → List AV → Env
  | t :: ts, v :: vs => putAll (fun u => if u = t then v else ρ u) ts vs
  | _, _ => ρ

/-- A round of a loop over a function: its assignment, its body, on the slots as they were where the loop began. -/
def roundOf (R : Runner) (i : Id) (args : List AV) (σ : St) : Option (AV × St) :=
  match σ.heap i with
  | some (.loop nt .ready _ ρ ps as body) =>
    if args.length = ps.length ∧ ps.all (fun t => decide (t < nt)) = true then
      match R as (putAll ρ ps args) σ with
      | some (.normal, ρ2, σ2) => match σ2.heap i with
        | some (.loop nt2 .ready pd2 r2 ps2 as2 body2) =>
          match R body ρ2 (σ2.set i (some (.loop nt2 .busy pd2 r2 ps2 as2 body2))) with
          | some (e, _, σ4) => match σ4.heap i with
            | some (.loop nt4 _ _ r4 ps4 as4 body4) =>
              match e with
              | .normal => some (.bool true, σ4.set i (some (.loop nt4 .ready none r4 ps4 as4 body4)))
              | .ret => some (.bool false, σ4.set i (some (.loop nt4 .done (some .ret) r4 ps4 as4 body4)))
              | .exit id => some (.bool false, σ4.set i (some (.loop nt4 .done (some (.exit id)) r4 ps4 as4 body4)))
            | _ => none
          | none => none
        | _ => none
      | _ => none
    else none
  | _ => none

def fnOf (T : Table) (R : Runner) (f : FuncId) (args : List AV) (σ : St) : Option (AV × St) :=
  match T f with
  | none => none
  | some fi => match fi.hint with
    | .raw => bodyOf R fi args σ
    | .pure => (args.mapM (snap σ depth)).bind fun args' => (pureOf R fi args').map fun r => (r, σ)
    | .mut fp new => mutOf R fi fp new args σ
    | .known g => (g args).map fun r => (r, σ)

def callOf (T : Table) (R : Runner) : CallH := ⟨fnOf T R, roundOf R⟩

/-- What a loop over a function comes to, when the function is through. -/
def loopEnd (i : Id) (ρ : Env) : Option (AV × St) → Option (Ex × Env × St)
  | some (_, σ2) => match σ2.heap i with
    | some (.loop _ st pd _ _ _ _) => if st = .busy then none else some (pd.getD .normal, ρ, σ2.set i none)
    | _ => none
  | none => none

noncomputable def runN (T : Table) : Nat → Runner
  | 0, _, _, _ => none
  | n + 1, c, ρ, σ => match c with
    | .skip => some (.normal, ρ, σ)
    | .ops l => (opsEv (callOf T (runN T n)) l ρ σ).map fun (ρ', σ') => (.normal, ρ', σ')
    | .draw l => (drawEv (callOf T (runN T n)) T l ρ σ).map fun (ρ', σ') => (.normal, ρ', σ')
    | .seq a b => match runN T n a ρ σ with
      | some (.normal, ρ', σ') => runN T n b ρ' σ'
      | r => r
    | .cond x a b => match x.get ρ with
      | .bool t => if t then runN T n a ρ σ else runN T n b ρ σ
      | _ => none
    | .block id c => match runN T n c ρ σ with
      | some (.exit id', ρ', σ') => if id' = id then some (.normal, ρ', σ') else some (.exit id', ρ', σ')
      | r => r
    | .loop c => match runN T n c ρ σ with
      | some (.normal, ρ', σ') => runN T n (.loop c) ρ' σ'
      | r => r
    | .rangeF x ps as body nt => match x.get ρ with
      | .func (.func f) first capt => loopEnd ⟨σ.next, 0, 0⟩ ρ (callOf T (runN T n) f (first ++ [.yld ⟨σ.next, 0, 0⟩] ++ capt) (σ.alloc (.loop nt .ready none ρ ps as body)).2)
      | _ => none
    | .exit id => some (.exit id, ρ, σ)
    | .ret => some (.ret, ρ, σ)
    | .no => none

end Go.Vm
