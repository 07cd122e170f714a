/-
  THE GENERIC LAYER 'Vm', part E: from the program's operations to the small language's.
-/
import Derived.Test.YtkhalpmmdlppkaaVmD
namespace Go.Vm

def ofC : Value → Option AV
  | .bool b => some (.bool b)
  | .int k n => some (.int k n)
  | .string s => some (.str s.data.toList)
  | .pointer none => some .nilp
  | .slice none 0 0 => some .nilsl
  | .map none => some .nilm
  | .nilFunc => some .nilFunc
  | .nilIface => some .nilIface
  | _ => none
def ofV : Value → Option AV
  | .agg cs => (cs.toList.mapM ofC).map .agg
  | v => ofC v

def trArg (nt : Nat) : Operand → Option Arg
  | .tmp t => if t < nt then some (.t t) else none
  | .const v => (ofV v).map .c
  | .func f => some (.c (.func (.func f) [] []))
  | .global _ => none

def trOpt (nt : Nat) : Option Operand → Option (Option Arg)
  | none => some none
  | some x => (trArg nt x).map some

def zerosOf (P : Program) (t : TypeId) : Option (List AV) :=
  (P.info? t).bind fun i => i.zero.bind fun v => v.cells.toList.mapM ofC

def zeroOf (P : Program) (t : TypeId) : Option AV :=
  (P.info? t).bind fun i => i.zero.bind ofV

mutual
def eqtOf (P : Program) : Nat → TypeId → Option EqT
  | 0, _ => none
  | n + 1, t => match P.underlying t with
    | some (.int _) => some .int
    | some .bool => some .bool
    | some .string => some .str
    | some (.struct fs) => if P.stoodInHeld t then none else (eqtFields P n fs.toList).map .st
    | _ => none
def eqtFields (P : Program) : Nat → List Field → Option (List (Nat × Nat × EqT))
  | _, [] => some []
  | 0, _ => none
  | n + 1, f :: fs => if f.name = "_" then none else
    match shapeOf P f.type, eqtOf P n f.type, eqtFields P n fs with
    | some (_, sz), some t, some l => some ((f.offset, sz, t) :: l)
    | _, _, _ => none
end

def isConst : Operand → Bool
  | .const _ => true
  | _ => false

def placesOf (P : Program) (fields : Array Field) : Option (List (Nat × Nat)) :=
  fields.toList.mapM fun f => (shapeOf P f.type).map fun s => (f.offset, s.2)

def trParts (nt : Nat) (place : Nat → Option (Nat × Nat)) (ps : List (Nat × Operand)) : Option (List (Nat × Nat × Arg)) :=
  ps.mapM fun (i, x) => (place i).bind fun p => (trArg nt x).map fun a => (p.1, p.2, a)

/-- The methods of a name, by the dynamic types that have it plainly. -/
def tblOf (P : Program) (name : String) : List (TypeId × Option (Bool × Nat) × FuncId) :=
  (List.range P.types.size).filterMap fun t =>
    match P.info? t with
    | some i => match i.methods.find? (·.name == name) with
      | some m => if m.path.isEmpty then
          match m.func, P.underlying t with
          | some (f, true), some (.pointer _) => some (t, none, f)
          | some (f, false), some (.pointer e) => (shapeOf P e).map fun sh => (t, some sh, f)
          | some (f, false), some _ => some (t, none, f)
          | _, _ => none
        else none
      | none => none
    | none => none

def trBuiltin (P : Program) (nt : Nat) (b : Builtin) (argTypes : Array TypeId) (args : List Operand) : Option Ins :=
  match b, argTypes.toList, args with
  | .len, [t], [x] => (trArg nt x).bind fun x => match P.underlying t with
    | some .string => some (.len .str x)
    | some (.slice _) => some (.len .sl x)
    | some (.map _ _) => some (.len .map x)
    | some (.array n _) => some (.konst n)
    | _ => none
  | .cap, [t], [x] => (trArg nt x).bind fun x => match P.underlying t with
    | some (.slice _) => some (.capOf x)
    | _ => none
  | .append, [t, u], [s, x] => (trArg nt s).bind fun s => (trArg nt x).bind fun x =>
    match P.underlying t, P.underlying u with
    | some (.slice e), some (.slice e') => match P.info? e, P.info? e' with
      | some i, some j => if i.size = j.size ∧ 0 < i.bytes ∧ ((zerosOf P e).map List.length) = some i.size then some (.append i.size i.bytes s x) else none
      | _, _ => none
    | some (.slice e), some (.int _) => match P.info? e, zerosOf P e with
      | some i, some z => if 0 < i.bytes ∧ z.length = i.size then some (.appendZ i.size i.bytes z s x) else none
      | _, _ => none
    | some (.slice e), some .string => match P.info? e with
      | some i => if i.size = 1 ∧ 0 < i.bytes ∧ ((zerosOf P e).map List.length) = some i.size then some (.append i.size i.bytes s x) else none
      | none => none
    | _, _ => none
  | .copy, [t, u], [d, s] => (trArg nt d).bind fun d => (trArg nt s).bind fun s =>
    match P.underlying t, P.underlying u with
    | some (.slice e), some (.slice _) => (shapeOf P e).map fun sh => .copy sh.2 d s
    | some (.slice e), some .string => (shapeOf P e).bind fun sh => if sh.2 = 1 then some (.copy 1 d s) else none
    | _, _ => none
  | .max, _, args => (args.mapM (trArg nt)).map (.minmax true)
  | .min, _, args => (args.mapM (trArg nt)).map (.minmax false)
  | .delete, [t, _], [m, k] => (trArg nt m).bind fun m => (trArg nt k).bind fun k =>
    match P.underlying t with
    | some (.map kt _) => (eqtOf P 9 kt).map fun q => .delete q m k
    | _ => none
  | _, _, _ => none

/-- The model's own entries that are instructions. -/
def entryOf (nm : String) (x y : Arg) : Option Ins :=
  if nm = "internal/bytealg.Compare" then some (.cmpB x y)
  else if nm = "internal/bytealg.IndexByte" then some (.idxB x y)
  else if nm = "internal/bytealg.IndexByteString" then some (.idxB x y)
  else none

/-- A call by name. -/
def callIns (P : Program) (f : FuncId) (as : List Arg) : Ins :=
  match P.funcs[f]? with
  | some fn => match fn.body, as with
    | none, [x, y] => match entryOf fn.name x y, (Extern.findNext fn).isNone with
      | some i, true => i
      | _, _ => .call f as
    | _, _ => .call f as
  | none => .call f as

theorem callIns_cases (P : Program) (f : FuncId) (as : List Arg) : callIns P f as = .call f as ∨
    ∃ fn x y, P.funcs[f]? = some fn ∧ fn.body = none ∧ as = [x, y] ∧ Extern.findNext fn = none ∧ ((fn.name = "internal/bytealg.Compare" ∧ callIns P f as = .cmpB x y) ∨ ((fn.name = "internal/bytealg.IndexByte" ∨ fn.name = "internal/bytealg.IndexByteString") ∧ callIns P f as = .idxB x y)) := by
  unfold callIns
  split
  · rename_i fn hf
    split
    · rename_i x y hb
      split
      · rename_i i he hn
        refine .inr ⟨fn, x, y, hf, hb, rfl, by simpa using hn, ?_⟩
        unfold entryOf at he
        split at he
        · rename_i h; simp only [Option.some.injEq] at he; exact .inl ⟨h, he.symm⟩
        · split at he
          · rename_i h; simp only [Option.some.injEq] at he; exact .inr ⟨.inl h, he.symm⟩
          · split at he
            · rename_i h; simp only [Option.some.injEq] at he; exact .inr ⟨.inr h, he.symm⟩
            · simp at he
      · exact .inl rfl
    · exact .inl rfl
  · exact .inl rfl

theorem find_compare {fn : Func} (h : fn.name = "internal/bytealg.Compare") : Extern.find fn = some Extern.BytealgCompare.compare := by
  unfold Extern.find
  rw [h]
  rfl

theorem find_index {fn : Func} (h : fn.name = "internal/bytealg.IndexByte" ∨ fn.name = "internal/bytealg.IndexByteString") : Extern.find fn = some Extern.BytealgIndexByte.indexByte := by
  unfold Extern.find
  rcases h with h | h <;> rw [h] <;> rfl

def trIns (P : Program) (nt : Nat) (op : Go.Op) : Option Ins :=
  match op with
  | .move x | .assign x => (trArg nt x).map .mv
  | .pick c a b => (trArg nt c).bind fun c => (trArg nt a).bind fun a => (trArg nt b).map fun b => .pick c a b
  | .alloc t => (zerosOf P t).map .alloc
  | .box _ x => (trArg nt x).map .box
  | .build t parts => (zerosOf P t).bind fun z => match P.underlying t with
    | some (.struct fields) => (placesOf P fields).bind fun pl => (trParts nt (pl[·]?) parts.toList).map fun ps => .build z ps
    | some (.array _ e) => (shapeOf P e).bind fun sh => (trParts nt (fun i => some (i * sh.2, sh.2)) parts.toList).map fun ps => .build z ps
    | _ => none
  | .buildSlice t n parts => match P.underlying t with
    | some (.slice e) => (shapeOf P e).bind fun sh => (zerosOf P e).bind fun z =>
        if n * sh.2 ≤ 2 ^ 24 ∧ z.length = sh.2 ∧ 0 < sh.2 then (trParts nt (fun i => some (i * sh.2, sh.2)) parts.toList).map fun ps => .buildSl n sh.2 (List.replicate n z).flatten ps else none
    | _ => none
  | .load t a => (shapeOf P t).bind fun sh => (trArg nt a).map fun a => .load sh.1 sh.2 a
  | .store t a v => (shapeOf P t).bind fun sh => (trArg nt a).bind fun a => (trArg nt v).map fun v => .store sh.2 a v
  | .nilCheck x => (trArg nt x).map .nilCk
  | .binOp op t x y _ => (trArg nt x).bind fun x' => (trArg nt y).bind fun y' =>
    match P.underlying t with
    | some (.int _) | some .string => some (.bin op x' y')
    | some .bool => match op with | .eql => some (.eq false .bool x' y') | .neq => some (.eq true .bool x' y') | _ => none
    | some (.pointer _) => match op with | .eql => some (.eq false (.nil .p) x' y') | .neq => some (.eq true (.nil .p) x' y') | _ => none
    | some (.slice _) => match op with | .eql => some (.eq false (.nil .s) x' y') | .neq => some (.eq true (.nil .s) x' y') | _ => none
    | some (.map _ _) => match op with | .eql => some (.eq false (.nil .m) x' y') | .neq => some (.eq true (.nil .m) x' y') | _ => none
    | some (.func _ _ _) => match op with | .eql => some (.eq false (.nil .f) x' y') | .neq => some (.eq true (.nil .f) x' y') | _ => none
    | some (.interface _) => if isConst x || isConst y then match op with | .eql => some (.eq false (.nil .i) x' y') | .neq => some (.eq true (.nil .i) x' y') | _ => none else none
    | some (.struct _) => if P.eqGuardType P.depth t then none else (eqtOf P 9 t).bind fun q => match op with | .eql => some (.eq false q x' y') | .neq => some (.eq true q x' y') | _ => none
    | _ => none
  | .unOp op _ x => (trArg nt x).map fun x => .un op x
  | .convert src dst x => (trArg nt x).bind fun x => match P.underlying src, P.underlying dst with
    | some (.int _), some (.int k) => some (.convInt k x)
    | some .string, some .string => some (.convId x)
    | some (.slice _), some (.slice e) => if src = dst then match P.underlying e with | some (.int .u8) => some (.convSl x) | _ => none else none
    | some .string, some (.slice e) => match P.underlying e with | some (.int .u8) => some (.bytesOf x) | _ => none
    | some (.slice e), some .string => match P.underlying e with | some (.int .u8) => some (.strOf x) | _ => none
    | _, _ => none
  | .sliceToArrayPointer t x => (trArg nt x).bind fun x => match P.underlying t with
    | some (.array n e) => (shapeOf P e).map fun sh => .arrOf n sh.2 x
    | _ => none
  | .makeInterface t x => (trArg nt x).bind fun x => match P.underlying t with
    | some (.interface _) | none => none
    | _ => some (.mkIface t x)
  | .makeFunc fn first capt => (first.toList.mapM (trArg nt)).bind fun a => (capt.toList.mapM (trArg nt)).map fun b => .mkFunc fn a b
  | .makeMap _ none => some .makeMap
  | .makeSlice t l c => (trArg nt l).bind fun l => (trArg nt c).bind fun c => match P.underlying t with
    | some (.slice e) => match P.info? e, zerosOf P e with
      | some i, some z => if 0 < i.size ∧ 0 < i.bytes ∧ z.length = i.size then some (.makeSl i.size i.bytes z l c) else none
      | _, _ => none
    | _ => none
  | .slice t x lo hi mx => (trArg nt x).bind fun x => (trOpt nt lo).bind fun lo => (trOpt nt hi).bind fun hi => (trOpt nt mx).bind fun mx =>
    if mx.isSome && hi.isNone then none else
    match P.underlying t with
    | some (.array n e) => (shapeOf P e).map fun sh => .slArr n sh.2 x lo hi mx
    | some .string => if mx.isNone then some (.slStr x lo hi) else none
    | some (.slice e) => (shapeOf P e).map fun sh => .slSl sh.2 x lo hi mx
    | _ => none
  | .fieldAddr s x f => (trArg nt x).bind fun x => match P.underlying s with
    | some (.struct fields) => (fields[f]?).bind fun fd => (shapeOf P fd.type).bind fun sh => if sh.2 = 0 then none else some (.faddr fd.offset x)
    | _ => none
  | .field s x f => (trArg nt x).bind fun x => match P.underlying s with
    | some (.struct fields) => (fields[f]?).bind fun fd => (shapeOf P fd.type).map fun sh => .fld fd.offset sh.1 sh.2 x
    | _ => none
  | .indexAddr t x i => (trArg nt x).bind fun x => (trArg nt i).bind fun i => match P.underlying t with
    | some (.array n e) => (shapeOf P e).map fun sh => .iaArr n sh.2 x i
    | some (.slice e) => (shapeOf P e).map fun sh => .iaSl sh.2 x i
    | _ => none
  | .index t x i => (trArg nt x).bind fun x => (trArg nt i).bind fun i => match P.underlying t with
    | some (.array n e) => (shapeOf P e).map fun sh => .ixArr n sh.2 sh.1 x i
    | some .string => some (.ixStr x i)
    | _ => none
  | .extract x i => (trArg nt x).map fun x => .ext i x
  | .lookup t m k ok => (trArg nt m).bind fun m => (trArg nt k).bind fun k => match P.underlying t with
    | some (.map kt e) => (eqtOf P 9 kt).bind fun q => (zeroOf P e).map fun z => .lookup q z ok m k
    | _ => none
  | .mapUpdate t m k v | .insert t m k v => (trArg nt m).bind fun m => (trArg nt k).bind fun k => (trArg nt v).bind fun v => match P.underlying t with
    | some (.map kt _) => (eqtOf P 9 kt).map fun q => .mapUpd q m k v
    | _ => none
  | .typeAssert x _ t ok => (trArg nt x).bind fun x => match P.underlying t with
    | some (.interface _) | none => none
    | _ => (zeroOf P t).map fun z => .tassert t ok z x
  | .call c =>
    match c.callee with
    | .builtin b => trBuiltin P nt b c.argTypes c.args.toList
    | .value (.func f) => (c.args.toList.mapM (trArg nt)).map fun as => callIns P f as
    | .value x => (trArg nt x).bind fun x => (c.args.toList.mapM (trArg nt)).map fun as => .callV x as
    | .invoke x name => (trArg nt x).bind fun x => (c.args.toList.mapM (trArg nt)).map fun as => .invoke (tblOf P name) x as
  | _ => none

/-! ### slots -/

structure EnvR (K : Ctx) (nt : Nat) (ρ : Env) (a : Act) : Prop where
  size : a.tmps.size = nt
  val : ∀ t, t < nt → VR K (ρ t) (a.tmps.getD t undef)

theorem EnvR.ext {K K' : Ctx} {nt : Nat} {ρ : Env} {a : Act} (h : EnvR K nt ρ a) (e : Ext K K') : EnvR K' nt ρ a := ⟨h.size, fun t ht => (h.val t ht).ext e⟩

theorem EnvR.put {K : Ctx} {nt : Nat} {ρ : Env} {a : Act} (h : EnvR K nt ρ a) {d : Option Nat} {v : AV} {v' : Value} (hv : VR K v v') :
    EnvR K nt (ρ.put d v) (a.put d v') := by
  cases d with
  | none => exact h
  | some d =>
    refine ⟨by simp [Act.put, h.size], fun t ht => ?_⟩
    simp only [Env.put, Act.put, Array.getD_eq_getD_getElem?, Array.getElem?_setIfInBounds]
    by_cases hd : t = d
    · subst hd; simp [h.size, ht]; exact hv
    · have := h.val t ht
      simp only [Array.getD_eq_getD_getElem?] at this
      simp [hd, Ne.symm hd]; exact this

theorem ofC_sound {v : Value} {x : AV} (h : ofC v = some x) (K : Ctx) : VR K x v := by
  unfold ofC at h
  split at h <;> simp only [Option.some.injEq, reduceCtorEq] at h <;> subst h
  · exact .bool _
  · exact .int _ _
  · rename_i s
    have : s = ⟨s.data.toList.toArray⟩ := by cases s; simp
    conv => rhs; rw [this]
    exact .str _
  · exact .nilp
  · exact .nilsl
  · exact .nilm
  · exact .nilFunc
  · exact .nilIface

theorem ofC_cell {v : Value} {x : AV} (h : ofC v = some x) : x.isCell = true := by
  unfold ofC at h
  split at h <;> simp only [Option.some.injEq, reduceCtorEq] at h <;> subst h <;> rfl

theorem mapM_ofC {K : Ctx} : ∀ {vs : List Value} {cs : List AV}, vs.mapM ofC = some cs → VRs K cs vs ∧ cs.all AV.isCell = true
  | [], cs, h => by simp at h; subst h; exact ⟨VRs.nil K, rfl⟩
  | v :: vs, cs, h => by
    simp only [List.mapM_cons, Option.bind_eq_bind, Option.bind_eq_some_iff, Option.pure_def, Option.some.injEq] at h
    obtain ⟨x, hx, xs, hxs, rfl⟩ := h
    obtain ⟨h1, h2⟩ := mapM_ofC (K := K) hxs
    exact ⟨VRs.cons (ofC_sound hx K) h1, by simp [ofC_cell hx, h2]⟩

theorem ofV_sound {v : Value} {x : AV} (h : ofV v = some x) (K : Ctx) : VR K x v := by
  unfold ofV at h
  split at h
  · rename_i cs
    simp only [Option.map_eq_some_iff] at h
    obtain ⟨xs, hx, rfl⟩ := h
    obtain ⟨h1, h2⟩ := mapM_ofC (K := K) hx
    have := VR.aggOf h1 h2
    simpa using this
  · exact ofC_sound h K

theorem arg_sound {K : Ctx} {nt : Nat} {ρ : Env} {a : Act} (h : EnvR K nt ρ a) {x : Operand} {y : Arg} (hx : trArg nt x = some y) : VR K (y.get ρ) (a.eval x) := by
  unfold trArg at hx
  split at hx
  · split at hx
    · rename_i ht
      simp only [Option.some.injEq] at hx; subst hx
      exact h.val _ ht
    · simp at hx
  · simp only [Option.map_eq_some_iff] at hx
    obtain ⟨v, hv, rfl⟩ := hx
    exact ofV_sound hv K
  · simp only [Option.some.injEq] at hx; subst hx
    exact .func #[] #[] rfl rfl (fun j hj => by simp at hj) (fun j hj => by simp at hj)
  · simp at hx

theorem args_sound {K : Ctx} {nt : Nat} {ρ : Env} {a : Act} (h : EnvR K nt ρ a) : ∀ {xs : List Operand} {ys : List Arg}, xs.mapM (trArg nt) = some ys →
    VRs K (ys.map (Arg.get ρ)) (xs.map a.eval)
  | [], ys, hx => by simp at hx; subst hx; exact VRs.nil K
  | x :: xs, ys, hx => by
    simp only [List.mapM_cons, Option.bind_eq_bind, Option.bind_eq_some_iff, Option.pure_def, Option.some.injEq] at hx
    obtain ⟨y, hy, ys', hys, rfl⟩ := hx
    exact VRs.cons (arg_sound h hy) (args_sound h hys)

theorem zeros_sound {P : Program} {t : TypeId} {z : List AV} (h : zerosOf P t = some z) (K : Ctx) :
    ∃ i v, P.info? t = some i ∧ i.zero = some v ∧ VRs K z v.cells.toList ∧ z.all AV.isCell = true := by
  unfold zerosOf at h
  simp only [Option.bind_eq_some_iff] at h
  obtain ⟨i, hi, v, hv, hm⟩ := h
  obtain ⟨h1, h2⟩ := mapM_ofC (K := K) hm
  exact ⟨i, v, hi, hv, h1, h2⟩

theorem zero_sound {P : Program} {t : TypeId} {z : AV} (h : zeroOf P t = some z) (K : Ctx) :
    ∃ v, VR K z v ∧ ∀ w, (zeroValue t).run P w = .ok v w := by
  unfold zeroOf at h
  simp only [Option.bind_eq_some_iff] at h
  obtain ⟨i, hi, v, hv, hm⟩ := h
  exact ⟨v, ofV_sound hm K, fun w => by simp [zeroValue, typeInfo, hi, hv]⟩

theorem run_typeInfo {P : Program} {t : TypeId} {i : TypeInfo} (h : P.info? t = some i) (w : World) : (typeInfo t).run P w = .ok i w := by simp [typeInfo, h]

end Go.Vm
