/-
  THE GENERIC LAYER 'Vm', part W: how a run is reckoned: equations for 'simp'.
-/
import Derived.Test.YtkhalpmmdlppkaaVmV
namespace Go.Vm
open Classical

@[simp] theorem put_lit (ρ : Env) (d t : Nat) (v : AV) : (ρ.put (some d) v) t = if t = d then v else ρ t := rfl
@[simp] theorem put_none (ρ : Env) (v : AV) : ρ.put none v = ρ := rfl

attribute [simp] Arg.get ret1 AV.cells AV.isCell addOff minmaxL byteOf Cap.room Cap.cut cutI isSt resultOf

section
variable (k : IntKind) (a b : Int)
@[simp] theorem bin_add : binOp .add (.int k a) (.int k b) = some (.int k (k.wrap (a + b))) := by simp [binOp, intOp]
@[simp] theorem bin_sub : binOp .sub (.int k a) (.int k b) = some (.int k (k.wrap (a - b))) := by simp [binOp, intOp]
@[simp] theorem bin_mul : binOp .mul (.int k a) (.int k b) = some (.int k (k.wrap (a * b))) := by simp [binOp, intOp]
theorem bin_quo (h : b ≠ 0) : binOp .quo (.int k a) (.int k b) = some (.int k (k.wrap (a.tdiv b))) := by simp [binOp, intOp, h]
theorem bin_rem (h : b ≠ 0) : binOp .rem (.int k a) (.int k b) = some (.int k (a.tmod b)) := by simp [binOp, intOp, h]
@[simp] theorem bin_and : binOp .and (.int k a) (.int k b) = some (.int k (bits .and k a b)) := by simp [binOp, intOp]
@[simp] theorem bin_or : binOp .or (.int k a) (.int k b) = some (.int k (bits .or k a b)) := by simp [binOp, intOp]
@[simp] theorem bin_xor : binOp .xor (.int k a) (.int k b) = some (.int k (bits .xor k a b)) := by simp [binOp, intOp]
@[simp] theorem bin_eql : binOp .eql (.int k a) (.int k b) = some (.bool (decide (a = b))) := by simp [binOp, intOp]
@[simp] theorem bin_neq : binOp .neq (.int k a) (.int k b) = some (.bool (!decide (a = b))) := by simp [binOp, intOp]
@[simp] theorem bin_lss : binOp .lss (.int k a) (.int k b) = some (.bool (decide (a < b))) := by simp [binOp, intOp]
@[simp] theorem bin_leq : binOp .leq (.int k a) (.int k b) = some (.bool (decide (a ≤ b))) := by simp [binOp, intOp]
@[simp] theorem bin_gtr : binOp .gtr (.int k a) (.int k b) = some (.bool (decide (b < a))) := by simp [binOp, intOp]
@[simp] theorem bin_geq : binOp .geq (.int k a) (.int k b) = some (.bool (decide (b ≤ a))) := by simp [binOp, intOp]
end
section
variable (k l : IntKind) (a b : Int)
@[simp] theorem bin_shl : binOp .shl (.int k a) (.int l b) = shiftOp .shl k a b := by simp [binOp]
@[simp] theorem bin_shr : binOp .shr (.int k a) (.int l b) = shiftOp .shr k a b := by simp [binOp]
end
section
variable (a b : List UInt8)
@[simp] theorem bin_str (op : BinOp) : binOp op (.str a) (.str b) = strOp op a b := by simp [binOp]
@[simp] theorem str_eql : strOp .eql a b = some (.bool (decide (a = b))) := rfl
@[simp] theorem str_neq : strOp .neq a b = some (.bool (!decide (a = b))) := rfl
end
@[simp] theorem un_not (b : Bool) : unOp .not (.bool b) = some (.bool !b) := rfl

/-! the list of operations, one by one, nothing behind it looked at -/
def stepEv (E : CallH) (d : Option Nat) (l : List Op) (ρ : Env) : Option (AV × St) → Option (Env × St)
  | some (v, σ') => opsEv E l (ρ.put d v) σ'
  | none => none
def guardEv (E : CallH) (d : Option Nat) (i : Ins) (l : List Op) (ρ : Env) (σ : St) : AV → Bool → Option (Env × St)
  | .bool c, b => if c == b then stepEv E d l ρ (i.ev E ρ σ) else opsEv E l (ρ.put d (.tup [])) σ
  | _, _ => opsEv E l (ρ.put d (.tup [])) σ
section
variable (E : CallH) (d : Option Nat) (i : Ins) (l : List Op) (ρ : Env) (σ : St)
@[simp] theorem ops_nil : opsEv E [] ρ σ = some (ρ, σ) := rfl
@[simp] theorem ops_go : opsEv E (⟨d, i, none⟩ :: l) ρ σ = stepEv E d l ρ (i.ev E ρ σ) := by
  simp only [opsEv, Op.ev, wanted, if_true]
  cases i.ev E ρ σ <;> rfl
@[simp] theorem ops_guard (t : Nat) (b : Bool) : opsEv E (⟨d, i, some (t, b)⟩ :: l) ρ σ = guardEv E d i l ρ σ (ρ t) b := by
  have hw : wanted ρ (some (t, b)) = (match ρ t with | .bool c => c == b | _ => false) := rfl
  unfold opsEv Op.ev
  simp only []
  cases ht : ρ t with
  | bool c =>
    rw [ht] at hw
    simp only at hw
    simp only [guardEv]
    by_cases h : (c == b) = true
    · rw [if_pos (hw.trans h), if_pos h]
      cases i.ev E ρ σ <;> rfl
    · rw [if_neg (by rw [hw]; exact h), if_neg h]
  | _ =>
    rw [ht] at hw
    simp only at hw
    rw [if_neg (by rw [hw]; simp)]
    rfl
@[simp] theorem step_some (v : AV) : stepEv E d l ρ (some (v, σ)) = opsEv E l (ρ.put d v) σ := rfl
@[simp] theorem guard_tt : guardEv E d i l ρ σ (.bool true) true = stepEv E d l ρ (i.ev E ρ σ) := rfl
@[simp] theorem guard_ff : guardEv E d i l ρ σ (.bool false) false = stepEv E d l ρ (i.ev E ρ σ) := rfl
@[simp] theorem guard_tf : guardEv E d i l ρ σ (.bool true) false = opsEv E l (ρ.put d (.tup [])) σ := rfl
@[simp] theorem guard_ft : guardEv E d i l ρ σ (.bool false) true = opsEv E l (ρ.put d (.tup [])) σ := rfl
end

/-! code -/
def opsOut : Option (Env × St) → Option (Ex × Env × St)
  | some (ρ, σ) => some (.normal, ρ, σ)
  | none => none
noncomputable def condOut (T : Table) (a b : C) (ρ : Env) (σ : St) : AV → Option (Ex × Env × St)
  | .bool true => run T a ρ σ
  | .bool false => run T b ρ σ
  | _ => none
section
variable (T : Table) (ρ : Env) (σ : St)
@[simp] theorem go_ops (l : List Op) : run T (.ops l) ρ σ = opsOut (opsEv (ev T) l ρ σ) := by rw [run_ops]; rfl
@[simp] theorem go_cond (x : Arg) (a b : C) : run T (.cond x a b) ρ σ = condOut T a b ρ σ (x.get ρ) := by
  rw [run_cond]
  unfold condOut
  cases x.get ρ <;> first | rfl | (rename_i b; cases b <;> rfl)
@[simp] theorem out_some : opsOut (some (ρ, σ)) = some (.normal, ρ, σ) := rfl
@[simp] theorem cond_t (a b : C) : condOut T a b ρ σ (.bool true) = run T a ρ σ := rfl
@[simp] theorem cond_f (a b : C) : condOut T a b ρ σ (.bool false) = run T b ρ σ := rfl
@[simp] theorem then_normal (k : Env → St → Option (Ex × Env × St)) : thenRun k (some (.normal, ρ, σ)) = k ρ σ := rfl
@[simp] theorem then_exit (k : Env → St → Option (Ex × Env × St)) (n : Nat) : thenRun k (some (.exit n, ρ, σ)) = some (.exit n, ρ, σ) := rfl
@[simp] theorem then_ret (k : Env → St → Option (Ex × Env × St)) : thenRun k (some (.ret, ρ, σ)) = some (.ret, ρ, σ) := rfl
@[simp] theorem blk_normal (n : Nat) : inBlk n (some (.normal, ρ, σ)) = some (.normal, ρ, σ) := rfl
@[simp] theorem blk_ret (n : Nat) : inBlk n (some (.ret, ρ, σ)) = some (.ret, ρ, σ) := rfl
@[simp] theorem blk_exit (n m : Nat) : inBlk n (some (.exit m, ρ, σ)) = if m = n then some (.normal, ρ, σ) else some (.exit m, ρ, σ) := rfl
end

/-! one operation at a time -/
section
variable (E : CallH) (ρ : Env) (σ : St)
@[simp] theorem ev_mv (x : Arg) : Ins.ev E ρ σ (.mv x) = some (x.get ρ, σ) := rfl
@[simp] theorem ev_pick (c a b : Arg) : Ins.ev E ρ σ (.pick c a b) = match c.get ρ with | .bool t => some (if t then a.get ρ else b.get ρ, σ) | _ => none := rfl
@[simp] theorem ev_alloc (z : List AV) : Ins.ev E ρ σ (.alloc z) = (newCells σ z).map fun (i, σ') => (.ptr i 0, σ') := rfl
@[simp] theorem ev_box (x : Arg) : Ins.ev E ρ σ (.box x) = (newCells σ (x.get ρ).cells).map fun (i, σ') => (.ptr i 0, σ') := rfl
@[simp] theorem ev_build (z : List AV) (ps : List (Nat × Nat × Arg)) : Ins.ev E ρ σ (.build z ps) = (fill ρ z ps).map fun cs => (.agg cs, σ) := rfl
@[simp] theorem ev_buildSl (n sz : Nat) (z : List AV) (ps : List (Nat × Nat × Arg)) : Ins.ev E ρ σ (.buildSl n sz z ps) = (fill ρ z ps).bind fun cs => (newCells σ cs).map fun (i, σ') => (.sl i 0 n (.ex n) sz, σ') := rfl
@[simp] theorem ev_load (g : Bool) (n : Nat) (a : Arg) : Ins.ev E ρ σ (.load g n a) = ret1 σ (loadAt σ g n (a.get ρ)) := rfl
@[simp] theorem ev_store (n : Nat) (a v : Arg) : Ins.ev E ρ σ (.store n a v) = (storeAt σ n (a.get ρ) (v.get ρ)).map fun σ' => (.tup [], σ') := rfl
@[simp] theorem ev_nilCk (x : Arg) : Ins.ev E ρ σ (.nilCk x) = match x.get ρ with | .ptr i o => some (.ptr i o, σ) | .iptr f cs o => some (.iptr f cs o, σ) | .iface t v => some (.iface t v, σ) | .func (.func f) a b => some (.func (.func f) a b, σ) | _ => none := rfl
@[simp] theorem ev_bin (op : BinOp) (x y : Arg) : Ins.ev E ρ σ (.bin op x y) = ret1 σ (binOp op (x.get ρ) (y.get ρ)) := rfl
@[simp] theorem ev_eq (ng : Bool) (t : EqT) (x y : Arg) : Ins.ev E ρ σ (.eq ng t x y) = (eqv t (x.get ρ) (y.get ρ)).map fun b => (.bool (if ng then !b else b), σ) := rfl
@[simp] theorem ev_un (op : UnOp) (x : Arg) : Ins.ev E ρ σ (.un op x) = ret1 σ (unOp op (x.get ρ)) := rfl
@[simp] theorem ev_convInt (k : IntKind) (x : Arg) : Ins.ev E ρ σ (.convInt k x) = match x.get ρ with | .int _ n => some (.int k (k.wrap n), σ) | _ => none := rfl
@[simp] theorem ev_convId (x : Arg) : Ins.ev E ρ σ (.convId x) = match x.get ρ with | .str s => some (.str s, σ) | _ => none := rfl
@[simp] theorem ev_faddr (o : Nat) (x : Arg) : Ins.ev E ρ σ (.faddr o x) = ret1 σ (addOff o (x.get ρ)) := rfl
@[simp] theorem ev_fld (o : Nat) (g : Bool) (n : Nat) (x : Arg) : Ins.ev E ρ σ (.fld o g n x) = match x.get ρ with | .agg cs => ret1 σ (part g n o cs) | _ => none := rfl
@[simp] theorem ev_iaSl (sz : Nat) (x i : Arg) : Ins.ev E ρ σ (.iaSl sz x i) = match asNat (i.get ρ) with | some k => ret1 σ (elemPtr sz k (x.get ρ)) | none => none := rfl
@[simp] theorem ev_iaArr (n sz : Nat) (x i : Arg) : Ins.ev E ρ σ (.iaArr n sz x i) = match asNat (i.get ρ) with | some k => if k < n then ret1 σ (addOff (k * sz) (x.get ρ)) else none | none => none := rfl
@[simp] theorem ev_ixStr (x i : Arg) : Ins.ev E ρ σ (.ixStr x i) = match asNat (i.get ρ), x.get ρ with | some k, .str s => (s[k]?).map fun b => (.int .u8 b.toNat, σ) | _, _ => none := rfl
@[simp] theorem ev_ext (i : Nat) (x : Arg) : Ins.ev E ρ σ (.ext i x) = match x.get ρ with | .tup vs => (vs[i]?).map fun v => (v, σ) | _ => none := rfl
@[simp] theorem ev_len (k : LK) (x : Arg) : Ins.ev E ρ σ (.len k x) = (lenIn σ k (x.get ρ)).map fun n => (.int .i64 (n : Nat), σ) := rfl
@[simp] theorem ev_konst (n : Nat) : Ins.ev E ρ σ (.konst n) = some (.int .i64 n, σ) := rfl
@[simp] theorem ev_strOf (x : Arg) : Ins.ev E ρ σ (.strOf x) = match x.get ρ with | .str _ => none | v => match lenOf v with | some n => (elems σ 1 n v).bind fun cs => (cs.mapM byteOf).map fun s => (.str s, σ) | none => none := rfl
@[simp] theorem ev_arrOf (n sz : Nat) (x : Arg) : Ins.ev E ρ σ (.arrOf n sz x) = match x.get ρ with
    | .sl i off m _ _ => if n ≤ m then some (.ptr i off, σ) else none
    | .isl f cs m _ => if n ≤ m ∧ n * sz ≤ cs.length ∧ 0 < n * sz then some (.iptr f cs 0, σ) else none
    | _ => none := rfl
@[simp] theorem ev_append (sz bytes : Nat) (s x : Arg) : Ins.ev E ρ σ (.append sz bytes s x) = match lenOf (x.get ρ) with
    | some n => (elems σ sz n (x.get ρ)).bind fun xs => appendTo σ sz bytes n xs (s.get ρ)
    | none => none := rfl
@[simp] theorem ev_copy (sz : Nat) (d s : Arg) : Ins.ev E ρ σ (.copy sz d s) = match lenOf (d.get ρ), lenOf (s.get ρ) with
    | some dl, some sl => (elems σ sz (min sl dl) (s.get ρ)).bind fun xs => copyTo σ (min sl dl) xs (d.get ρ)
    | _, _ => none := rfl
@[simp] theorem ev_minmax (mx : Bool) (x : Arg) (xs : List Arg) : Ins.ev E ρ σ (.minmax mx (x :: xs)) = ret1 σ (minmaxL mx (x.get ρ) (xs.map (Arg.get ρ))) := rfl
@[simp] theorem ev_slSl (sz : Nat) (x : Arg) (lo hi mx : Option Arg) : Ins.ev E ρ σ (.slSl sz x lo hi mx) = ret1 σ (sliceSl sz (x.get ρ) lo hi mx ρ) := rfl
@[simp] theorem ev_slArr (n sz : Nat) (x : Arg) (lo hi mx : Option Arg) : Ins.ev E ρ σ (.slArr n sz x lo hi mx) = ret1 σ (sliceArr σ n sz (x.get ρ) lo hi mx ρ) := rfl
@[simp] theorem ev_mkIface (t : TypeId) (x : Arg) : Ins.ev E ρ σ (.mkIface t x) = some (.iface t (x.get ρ), σ) := rfl
@[simp] theorem ev_mkFunc (fn : Fn) (a b : List Arg) : Ins.ev E ρ σ (.mkFunc fn a b) = some (.func fn (a.map (Arg.get ρ)) (b.map (Arg.get ρ)), σ) := rfl
@[simp] theorem ev_call (f : FuncId) (xs : List Arg) : Ins.ev E ρ σ (.call f xs) = E f (xs.map (Arg.get ρ)) σ := rfl
@[simp] theorem ev_callV (x : Arg) (xs : List Arg) : Ins.ev E ρ σ (.callV x xs) = match x.get ρ with | .func (.func f) first capt => E f (first ++ xs.map (Arg.get ρ) ++ capt) σ | .yld i => E.yl i (xs.map (Arg.get ρ)) σ | _ => none := rfl
@[simp] theorem ev_makeSl (sz bytes : Nat) (zero : List AV) (ln cp : Arg) : Ins.ev E ρ σ (.makeSl sz bytes zero ln cp) = match asNat (ln.get ρ), asNat (cp.get ρ) with
    | some l, some c => if l ≤ c ∧ c * bytes ≤ growMax ∧ zero.length = sz then (newCells σ ((List.replicate c zero).flatten)).map fun (i, σ') => (.sl i 0 l (.ex c) sz, σ') else none
    | _, _ => none := rfl
end

attribute [simp] run_skip run_exit run_ret run_block run_seq

theorem part_one {cs : List AV} {off : Nat} (h : off < cs.length) : part false 1 off cs = cs[off]? := by
  unfold part; rw [if_pos (by omega)]; rfl

/-! lengths -/
section
variable (σ : St) (s : List UInt8) (i : Id) (o n : Nat) (f : Bool) (cs ks vs : List AV) (c : Option Nat) (cap : Cap) (sz : Nat)
@[simp] theorem len_str : lenIn σ .str (.str s) = some s.length := rfl
@[simp] theorem len_nilsl : lenIn σ .sl .nilsl = some 0 := rfl
@[simp] theorem len_esl : lenIn σ .sl .esl = some 0 := rfl
@[simp] theorem len_sl : lenIn σ .sl (.sl i o n cap sz) = some n := rfl
@[simp] theorem len_isl : lenIn σ .sl (.isl f cs n c) = some n := rfl
@[simp] theorem len_nilm : lenIn σ .map .nilm = some 0 := rfl
@[simp] theorem len_imap : lenIn σ .map (.imap f ks vs) = some ks.length := rfl
@[simp] theorem lof_str : lenOf (.str s) = some s.length := rfl
@[simp] theorem lof_nilsl : lenOf .nilsl = some 0 := rfl
@[simp] theorem lof_esl : lenOf .esl = some 0 := rfl
@[simp] theorem lof_sl : lenOf (.sl i o n cap sz) = some n := rfl
@[simp] theorem lof_isl : lenOf (.isl f cs n c) = some n := rfl
end

/-! held against nil -/
section
variable (i : Id) (o n : Nat) (f : Bool) (cs : List AV) (c : Option Nat) (cap : Cap) (sz : Nat)
@[simp] theorem eq_pp : eqv (.nil .p) .nilp .nilp = some true := by simp [eqv]
@[simp] theorem eq_p1 : eqv (.nil .p) (.ptr i o) .nilp = some false := by simp [eqv]
@[simp] theorem eq_p2 : eqv (.nil .p) (.iptr f cs o) .nilp = some false := by simp [eqv]
@[simp] theorem eq_p3 : eqv (.nil .p) .nilp (.ptr i o) = some false := by simp [eqv]
@[simp] theorem eq_ss : eqv (.nil .s) .nilsl .nilsl = some true := by simp [eqv]
@[simp] theorem eq_s1 : eqv (.nil .s) (.sl i o n cap sz) .nilsl = some false := by simp [eqv]
@[simp] theorem eq_s2 : eqv (.nil .s) .esl .nilsl = some false := by simp [eqv]
@[simp] theorem eq_mm : eqv (.nil .m) .nilm .nilm = some true := by simp [eqv]
@[simp] theorem eq_m1 : eqv (.nil .m) (.map i) .nilm = some false := by simp [eqv]
@[simp] theorem eq_m2 (ks vs : List AV) : eqv (.nil .m) (.imap f ks vs) .nilm = some false := by simp [eqv]
@[simp] theorem eq_ff : eqv (.nil .f) .nilFunc .nilFunc = some true := by simp [eqv]
@[simp] theorem eq_f1 (fn : Fn) (a b : List AV) : eqv (.nil .f) (.func fn a b) .nilFunc = some false := by simp [eqv]
@[simp] theorem eq_ii : eqv (.nil .i) .nilIface .nilIface = some true := by simp [eqv]
@[simp] theorem eq_i1 (t : TypeId) (v : AV) : eqv (.nil .i) (.iface t v) .nilIface = some false := by simp [eqv]
@[simp] theorem eq_b (x y : Bool) : eqv .bool (.bool x) (.bool y) = some (x == y) := by simp [eqv]
@[simp] theorem eq_str (x y : List UInt8) : eqv .str (.str x) (.str y) = some (decide (x = y)) := by simp [eqv]
@[simp] theorem eq_int (k : IntKind) (x y : Int) : eqv .int (.int k x) (.int k y) = some (decide (x = y)) := by simp [eqv]
end

/-! states -/
def St.new (σ : St) (cs : List AV) : St := { heap := fun j => if j = ⟨σ.next, 0, 0⟩ then some (.cells cs) else σ.heap j, next := σ.next + 1, ver := σ.ver }
/-- The place of the next block. -/
abbrev St.nx (σ : St) : Id := ⟨σ.next, 0, 0⟩
section
variable (σ : St) (i j : Id) (cs : List AV) (b : Option Blk)
@[simp] theorem get_new : (σ.new cs).get i = if i = ⟨σ.next, 0, 0⟩ then some cs else σ.get i := by
  by_cases h : i = ⟨σ.next, 0, 0⟩ <;> simp [St.get, St.new, h]
@[simp] theorem get_set : (σ.set j (some (.cells cs))).get i = if i = j then some cs else σ.get i := by
  by_cases h : i = j <;> simp [St.get, St.set, h]
@[simp] theorem get_drop : (σ.set j none).get i = if i = j then none else σ.get i := by
  by_cases h : i = j <;> simp [St.get, St.set, h]
@[simp] theorem get_empty : emptySt.get i = none := rfl
@[simp] theorem next_new : (σ.new cs).next = σ.next + 1 := rfl
@[simp] theorem next_set : (σ.set j b).next = σ.next := rfl
@[simp] theorem next_empty : emptySt.next = 0 := rfl
@[simp] theorem ver_new : (σ.new cs).ver = σ.ver := rfl
@[simp] theorem ver_set : (σ.set j b).ver = σ.ver := rfl
@[simp] theorem st_set_set (x : Option Blk) : (σ.set i x).set i b = σ.set i b := by
  simp only [St.set, St.mk.injEq, and_self, and_true]
  funext j; split <;> simp_all
@[simp] theorem set_new_same (b' : List AV) : (σ.new cs).set ⟨σ.next, 0, 0⟩ (some (.cells b')) = σ.new b' := by
  simp only [St.set, St.new, St.mk.injEq, and_self, and_true]
  funext j; split <;> simp_all
@[simp] theorem vid_eq (a b c a' b' c' : Nat) : ((⟨a, b, c⟩ : Id) = ⟨a', b', c'⟩) = (a = a' ∧ b = b' ∧ c = c') := by simp
end
theorem get_set_same (σ : St) (j : Id) (cs : List AV) : (σ.set j (some (.cells cs))).get j = some cs := by simp
theorem newCells_ok {σ : St} {cs : List AV} (h : cs.all AV.isCell = true) : newCells σ cs = some (⟨σ.next, 0, 0⟩, σ.new cs) := by
  unfold newCells; rw [if_pos h]; rfl
theorem newCells_if (σ : St) (cs : List AV) : newCells σ cs = if cs.all AV.isCell = true then some (⟨σ.next, 0, 0⟩, σ.new cs) else none := by
  by_cases h : cs.all AV.isCell = true
  · rw [newCells_ok h, if_pos h]
  · rw [if_neg h]; unfold newCells; rw [if_neg h]
def fillV : List AV → List (Nat × Nat × List AV) → Option (List AV)
  | cs, [] => some cs
  | cs, (off, n, vs) :: rest => if vs.length = n ∧ off + n ≤ cs.length ∧ vs.all AV.isCell = true then fillV (splice cs off vs) rest else none
def fillA (ρ : Env) : List (Nat × Nat × Arg) → List (Nat × Nat × List AV)
  | [] => []
  | (off, n, x) :: rest => (off, n, (x.get ρ).cells) :: fillA ρ rest
@[simp] theorem fillA_nil (ρ : Env) : fillA ρ [] = [] := rfl
@[simp] theorem fillA_cons (ρ : Env) (off n : Nat) (x : Arg) (rest : List (Nat × Nat × Arg)) : fillA ρ ((off, n, x) :: rest) = (off, n, (x.get ρ).cells) :: fillA ρ rest := rfl
@[simp] theorem fill_eq (ρ : Env) : ∀ (ps : List (Nat × Nat × Arg)) (cs : List AV), fill ρ cs ps = fillV cs (fillA ρ ps)
  | [], cs => rfl
  | (off, n, x) :: rest, cs => by
    simp only [fill, fillA, fillV]
    split
    · exact fill_eq ρ rest _
    · rfl
theorem fillV_nil (cs : List AV) : fillV cs [] = some cs := rfl
theorem fillV_cons (cs vs : List AV) (off n : Nat) (rest : List (Nat × Nat × List AV)) : fillV cs ((off, n, vs) :: rest) = if vs.length = n ∧ off + n ≤ cs.length ∧ vs.all AV.isCell = true then fillV (cs.take off ++ (vs ++ cs.drop (off + vs.length))) rest else none := rfl
theorem fillV_all {z vs : List AV} {n : Nat} (h1 : z.length = n) (h2 : vs.length = n) (hc : vs.all AV.isCell = true) : fillV z [(0, n, vs)] = some vs := by
  rw [fillV_cons, if_pos ⟨h2, by omega, hc⟩, fillV_nil]
  simp [h1, h2]
theorem append_nil' {σ : St} {sz bytes n : Nat} {xs : List AV} (h0 : 0 < n) (hb : n * bytes ≤ growMax) (hc : xs.all AV.isCell = true) : appendTo σ sz bytes n xs .nilsl = some (.sl ⟨σ.next, 0, 0⟩ 0 n (.ge n) sz, σ.new xs) := by
  simp only [appendTo]
  rw [if_neg (by omega), if_pos hb, newCells_ok hc]; rfl
theorem append_grow {σ : St} {sz bytes n len c : Nat} {i : Id} {cs xs : List AV} (hg : σ.get i = some cs) (h1 : c < len + n) (h2 : len * sz ≤ cs.length) (hb : (len + n) * bytes ≤ lenMax) (hcs : cs.all AV.isCell = true) (hc : xs.all AV.isCell = true) :
    appendTo σ sz bytes n xs (.sl i 0 len (.ge c) sz) = some (.sl ⟨σ.next, 0, 0⟩ 0 (len + n) (.ge (len + n)) sz, (σ.set i none).new (cs.take (len * sz) ++ xs)) := by
  simp only [appendTo, hg, Cap.room]
  rw [if_neg (by simp), if_neg (by omega), if_pos ⟨by omega, hb⟩, newCells_ok (by
    rw [List.all_append, hc, Bool.and_true]
    simp only [List.drop_zero, List.all_eq_true] at hcs ⊢
    exact fun x hx => hcs x (List.mem_of_mem_take hx))]
  simp
@[simp] theorem init_get (as : List AV) (t : Nat) : initEnv as t = as.getD t (.tup []) := rfl

/-- Cells that are bytes. -/
def bs (b : List UInt8) : List AV := b.map fun x => .int .u8 x.toNat
@[simp] theorem bs_len (b : List UInt8) : (bs b).length = b.length := by simp [bs]
@[simp] theorem bs_cell (b : List UInt8) : (bs b).all AV.isCell = true := by simp [bs]
theorem bs_app (a b : List UInt8) : bs (a ++ b) = bs a ++ bs b := by simp [bs]
@[simp] theorem bs_get (b : List UInt8) (i : Nat) : (bs b)[i]? = (b[i]?).map fun x => .int .u8 x.toNat := by simp [bs]
@[simp] theorem bs_take (b : List UInt8) (i : Nat) : (bs b).take i = bs (b.take i) := by simp [bs, List.map_take]
@[simp] theorem bs_drop (b : List UInt8) (i : Nat) : (bs b).drop i = bs (b.drop i) := by simp [bs, List.map_drop]
theorem bs_byte (b : List UInt8) : (bs b).mapM byteOf = some b := by
  induction b with
  | nil => rfl
  | cons x b ih =>
    have hx : UInt8.ofNat x.toNat = x := by simp
    simp only [bs, List.map_cons, List.mapM_cons] at ih ⊢
    rw [ih]
    simp [byteOf]
theorem bs_inj {a b : List UInt8} (h : bs a = bs b) : a = b := by
  have := bs_byte a
  rw [h, bs_byte] at this
  exact (Option.some.inj this).symm

theorem store_all {σ : St} {i : Id} {n : Nat} {old cs : List AV} (hg : σ.get i = some old) (ho : old.length = n) (hc : cs.length = n) (hcell : cs.all AV.isCell = true) : storeAt σ n (.ptr i 0) (.agg cs) = some (σ.set i (some (.cells cs))) := by
  simp only [storeAt, AV.cells, hc, if_true, storeCells, hg, hcell, and_true]
  rw [if_pos (by omega)]
  have : splice old 0 cs = cs := by simp [splice, hc, ho]
  rw [this]
theorem new_store {σ : St} {n : Nat} {old cs : List AV} (ho : old.length = n) (hc : cs.length = n) (hcell : cs.all AV.isCell = true) : storeAt (σ.new old) n (.ptr ⟨σ.next, 0, 0⟩ 0) (.agg cs) = some (σ.new cs) := by
  rw [store_all (old := old) (by simp) ho hc hcell, set_new_same]

def bndV (v : AV) (most : Nat) : Option Nat := match asNat v with | some n => if n ≤ most then some n else none | none => none
@[simp] theorem bnd_no (ρ : Env) (most d : Nat) : bnd ρ none most d = some d := rfl
@[simp] theorem bnd_yes (ρ : Env) (a : Arg) (most d : Nat) : bnd ρ (some a) most d = bndV (a.get ρ) most := rfl
theorem bndV_nat {k : IntKind} {n : Int} {most : Nat} (h : 0 ≤ n) (h2 : n ≤ most) : bndV (.int k n) most = some n.toNat := by
  simp only [bndV, asNat, if_pos h]; rw [if_pos (by omega)]
@[simp] theorem sliceArr_eq (σ : St) (n sz : Nat) (x : AV) (lo hi mx : Option Arg) (ρ : Env) : sliceArr σ n sz x lo hi mx ρ = (bnd ρ mx n n).bind fun m => (bnd ρ hi m n).bind fun h => (bnd ρ lo h 0).bind fun l => if h ≤ m then cutArr σ n sz l h m x else none := rfl
theorem cut_ptr {σ : St} {i : Id} {n sz h m off : Nat} {cs : List AV} (hg : σ.get i = some cs) (hl : off + n * sz ≤ cs.length) : cutArr σ n sz 0 h m (.ptr i off) = some (.sl i off h (.ex m) sz) := by
  simp only [cutArr, hasRoom, hg, decide_eq_true hl, if_true]
theorem slArr_all {σ : St} {n sz off : Nat} {i : Id} {cs : List AV} {ρ : Env} (hg : σ.get i = some cs) (h : off + n * sz ≤ cs.length) : sliceArr σ n sz (.ptr i off) none none none ρ = some (.sl i off n (.ex n) sz) := by
  simp only [sliceArr, bnd, Option.bind_some, Nat.le_refl, if_true, cutArr, hasRoom, hg, decide_eq_true h]

theorem store_lit {σ : St} {i : Id} {off : Nat} {v : AV} (hv : v.cells = [v]) (hc : v.isCell = true) : storeAt σ 1 (.ptr i off) v = (σ.get i).bind fun cs => if off < cs.length then some (σ.set i (some (.cells (cs.set off v)))) else none := by
  simp only [storeAt, hv, List.length_singleton, if_true, storeCells]
  cases σ.get i with
  | none => rfl
  | some cs =>
    simp only [Option.bind_some, List.all_cons, hc, List.all_nil, Bool.and_true, and_true]
    by_cases h : off < cs.length
    · rw [if_pos (by omega), if_pos h]
      have hs : splice cs off [v] = cs.set off v := by simp only [splice, List.length_singleton, List.set_eq_take_append_cons_drop, h, if_true, List.singleton_append]
      rw [hs]
    · rw [if_neg (by omega), if_neg h]
section
variable (σ : St) (i : Id) (off : Nat)
@[simp] theorem store_int (t : IntKind) (x : Int) : storeAt σ 1 (.ptr i off) (.int t x) = (σ.get i).bind fun cs => if off < cs.length then some (σ.set i (some (.cells (cs.set off (.int t x))))) else none := store_lit rfl rfl
@[simp] theorem store_bool (x : Bool) : storeAt σ 1 (.ptr i off) (.bool x) = (σ.get i).bind fun cs => if off < cs.length then some (σ.set i (some (.cells (cs.set off (.bool x))))) else none := store_lit rfl rfl
@[simp] theorem store_str (x : List UInt8) : storeAt σ 1 (.ptr i off) (.str x) = (σ.get i).bind fun cs => if off < cs.length then some (σ.set i (some (.cells (cs.set off (.str x))))) else none := store_lit rfl rfl
@[simp] theorem store_nilp  : storeAt σ 1 (.ptr i off) .nilp = (σ.get i).bind fun cs => if off < cs.length then some (σ.set i (some (.cells (cs.set off .nilp)))) else none := store_lit rfl rfl
@[simp] theorem store_ptr (j : Id) (p : Nat) : storeAt σ 1 (.ptr i off) (.ptr j p) = (σ.get i).bind fun cs => if off < cs.length then some (σ.set i (some (.cells (cs.set off (.ptr j p))))) else none := store_lit rfl rfl
@[simp] theorem store_iptr (f : Bool) (l : List AV) (p : Nat) : storeAt σ 1 (.ptr i off) (.iptr f l p) = (σ.get i).bind fun cs => if off < cs.length then some (σ.set i (some (.cells (cs.set off (.iptr f l p))))) else none := store_lit rfl rfl
@[simp] theorem store_nilsl  : storeAt σ 1 (.ptr i off) .nilsl = (σ.get i).bind fun cs => if off < cs.length then some (σ.set i (some (.cells (cs.set off .nilsl)))) else none := store_lit rfl rfl
@[simp] theorem store_esl  : storeAt σ 1 (.ptr i off) .esl = (σ.get i).bind fun cs => if off < cs.length then some (σ.set i (some (.cells (cs.set off .esl)))) else none := store_lit rfl rfl
@[simp] theorem store_sl (j : Id) (p q : Nat) (c : Cap) (z : Nat) : storeAt σ 1 (.ptr i off) (.sl j p q c z) = (σ.get i).bind fun cs => if off < cs.length then some (σ.set i (some (.cells (cs.set off (.sl j p q c z))))) else none := store_lit rfl rfl
@[simp] theorem store_isl (f : Bool) (l : List AV) (q : Nat) (c : Option Nat) : storeAt σ 1 (.ptr i off) (.isl f l q c) = (σ.get i).bind fun cs => if off < cs.length then some (σ.set i (some (.cells (cs.set off (.isl f l q c))))) else none := store_lit rfl rfl
@[simp] theorem store_nilm  : storeAt σ 1 (.ptr i off) .nilm = (σ.get i).bind fun cs => if off < cs.length then some (σ.set i (some (.cells (cs.set off .nilm)))) else none := store_lit rfl rfl
@[simp] theorem store_map (j : Id) : storeAt σ 1 (.ptr i off) (.map j) = (σ.get i).bind fun cs => if off < cs.length then some (σ.set i (some (.cells (cs.set off (.map j))))) else none := store_lit rfl rfl
@[simp] theorem store_imap (f : Bool) (l m : List AV) : storeAt σ 1 (.ptr i off) (.imap f l m) = (σ.get i).bind fun cs => if off < cs.length then some (σ.set i (some (.cells (cs.set off (.imap f l m))))) else none := store_lit rfl rfl
@[simp] theorem store_func (fn : Fn) (l m : List AV) : storeAt σ 1 (.ptr i off) (.func fn l m) = (σ.get i).bind fun cs => if off < cs.length then some (σ.set i (some (.cells (cs.set off (.func fn l m))))) else none := store_lit rfl rfl
@[simp] theorem store_nilFunc  : storeAt σ 1 (.ptr i off) .nilFunc = (σ.get i).bind fun cs => if off < cs.length then some (σ.set i (some (.cells (cs.set off .nilFunc)))) else none := store_lit rfl rfl
@[simp] theorem store_iface (t : TypeId) (x : AV) : storeAt σ 1 (.ptr i off) (.iface t x) = (σ.get i).bind fun cs => if off < cs.length then some (σ.set i (some (.cells (cs.set off (.iface t x))))) else none := store_lit rfl rfl
@[simp] theorem store_nilIface  : storeAt σ 1 (.ptr i off) .nilIface = (σ.get i).bind fun cs => if off < cs.length then some (σ.set i (some (.cells (cs.set off .nilIface)))) else none := store_lit rfl rfl
end
@[simp] theorem next_only (σ : St) (O : List Nat) : (σ.only O).next = σ.next := rfl
@[simp] theorem ver_only (σ : St) (O : List Nat) : (σ.only O).ver = σ.ver := rfl
@[simp] theorem isl_nc (f : Bool) (l : List AV) (q : Nat) (c : Option Nat) : refId (.isl f l q c) = none := rfl

/-! results, pictures -/
@[simp] theorem result_one (σ : St) (ρ : Env) (t : Nat) : result σ ρ [.tmp t] = some (ρ t) := rfl
@[simp] theorem result_two (σ : St) (ρ : Env) (t u : Nat) : result σ ρ [.tmp t, .tmp u] = some (.tup [ρ t, ρ u]) := rfl
@[simp] theorem result_three (σ : St) (ρ : Env) (t u v : Nat) : result σ ρ [.tmp t, .tmp u, .tmp v] = some (.tup [ρ t, ρ u, ρ v]) := rfl
@[simp] theorem result_none (σ : St) (ρ : Env) : result σ ρ [] = some (.tup []) := rfl
@[simp] theorem result_cell (σ : St) (ρ : Env) (t n : Nat) (g : Bool) : result σ ρ [.cell t g n] = loadAt σ g n (ρ t) := by
  simp only [result, resultOf]
  cases loadAt σ g n (ρ t) <;> rfl
/-- What a body's run came to. -/
def outOf (res : List RV) : Option (Ex × Env × St) → Option (AV × St)
  | some (.normal, ρ, σ') | some (.ret, ρ, σ') => (result σ' ρ res).map fun v => (v, σ')
  | _ => none
@[simp] theorem out_ret (res : List RV) (ρ : Env) (σ : St) : outOf res (some (.ret, ρ, σ)) = (result σ ρ res).map fun v => (v, σ) := rfl
@[simp] theorem out_end (res : List RV) (ρ : Env) (σ : St) : outOf res (some (.normal, ρ, σ)) = (result σ ρ res).map fun v => (v, σ) := rfl
@[simp] theorem body_eq (R : Runner) (nt np : Nat) (code : C) (res : List RV) (h : Hint) (args : List AV) (σ : St) : bodyOf R ⟨nt, np, code, res, h⟩ args σ = if args.length = np then outOf res (R code (initEnv args) σ) else none := by
  unfold bodyOf
  by_cases hl : args.length = np
  · simp only [hl, if_true]
    unfold outOf
    rfl
  · simp only [hl, if_false]
def frzOut : Option (AV × St) → Option AV
  | some (r, σ1) => frz σ1 0 [] depth (fun _ _ => false) r
  | none => none
@[simp] theorem pure_eq (R : Runner) (fi : FnI) (args : List AV) : pureOf R fi args = frzOut (bodyOf R fi args emptySt) := by
  unfold pureOf frzOut; rfl
@[simp] theorem frz_out (r : AV) (σ1 : St) : frzOut (some (r, σ1)) = frz σ1 0 [] 7 (fun _ _ => false) r := rfl
section
variable (σ : St) (b : Nat) (u : List Id) (k : Nat) (ok : Id → Nat → Bool)
@[simp] theorem frz_int (t : IntKind) (n : Int) : frz σ b u (k + 1) ok (.int t n) = some (.int t n) := rfl
@[simp] theorem frz_bool (x : Bool) : frz σ b u (k + 1) ok (.bool x) = some (.bool x) := rfl
@[simp] theorem frz_str (x : List UInt8) : frz σ b u (k + 1) ok (.str x) = some (.str x) := rfl
@[simp] theorem frz_nilp : frz σ b u (k + 1) ok .nilp = some .nilp := rfl
@[simp] theorem frz_nilsl : frz σ b u (k + 1) ok .nilsl = some (.isl false [] 0 none) := rfl
@[simp] theorem frz_esl : frz σ b u (k + 1) ok .esl = some (.isl false [] 0 none) := rfl
@[simp] theorem frz_nilIface : frz σ b u (k + 1) ok .nilIface = some .nilIface := rfl
@[simp] theorem frz_ptr (i : Id) (o : Nat) : frz σ b u (k + 1) ok (.ptr i o) = if ok i o then some (.ptr i o) else none := rfl
@[simp] theorem frz_agg (cs : List AV) : frz σ b u (k + 1) ok (.agg cs) = (cs.mapM (frz σ b u k ok)).map .agg := rfl
@[simp] theorem frz_tup (cs : List AV) : frz σ b u (k + 1) ok (.tup cs) = (cs.mapM (frz σ b u k ok)).map .tup := rfl
@[simp] theorem frz_isl (cs : List AV) (n : Nat) (c : Option Nat) : frz σ b u (k + 1) ok (.isl false cs n c) = some (.isl false cs n none) := rfl
@[simp] theorem frz_sl (i : Id) (off len sz : Nat) (cap : Cap) : frz σ b u (k + 1) ok (.sl i off len cap sz) = if b ≤ i.o ∧ ¬ i ∈ u then
        (σ.get i).bind fun cs => if off + len * sz ≤ cs.length then (((cs.drop off).take (len * sz)).mapM (frz σ b u k fun _ _ => false)).map fun cs' => .isl false cs' len none else none
      else none := rfl
theorem mapM_id {f : AV → Option AV} : ∀ {cs : List AV}, (∀ x ∈ cs, f x = some x) → cs.mapM f = some cs
  | [], _ => rfl
  | x :: cs, h => by
    rw [List.mapM_cons, h x (by simp), mapM_id (cs := cs) fun y hy => h y (by simp [hy])]; rfl
theorem frz_bs (x : List UInt8) : (bs x).mapM (frz σ b u (k + 1) ok) = some (bs x) := mapM_id fun y hy => by
  simp only [bs, List.mem_map] at hy
  obtain ⟨z, _, rfl⟩ := hy; rfl
@[simp] theorem snap_int (t : IntKind) (n : Int) : snap σ (k + 1) (.int t n) = some (.int t n) := rfl
@[simp] theorem snap_bool (x : Bool) : snap σ (k + 1) (.bool x) = some (.bool x) := rfl
@[simp] theorem snap_str (x : List UInt8) : snap σ (k + 1) (.str x) = some (.str x) := rfl
@[simp] theorem snap_nilp : snap σ (k + 1) .nilp = some .nilp := rfl
@[simp] theorem snap_nilsl : snap σ (k + 1) .nilsl = some (.isl false [] 0 none) := rfl
@[simp] theorem snap_esl : snap σ (k + 1) .esl = some (.isl false [] 0 none) := rfl
@[simp] theorem snap_nilIface : snap σ (k + 1) .nilIface = some .nilIface := rfl
@[simp] theorem snap_isl (f : Bool) (cs : List AV) (n : Nat) (c : Option Nat) : snap σ (k + 1) (.isl f cs n c) = some (.isl f cs n none) := rfl
@[simp] theorem snap_iptr (f : Bool) (cs : List AV) (o : Nat) : snap σ (k + 1) (.iptr f cs o) = some (.iptr f cs o) := rfl
@[simp] theorem snap_agg (cs : List AV) : snap σ (k + 1) (.agg cs) = (cs.mapM (snap σ k)).map .agg := rfl
@[simp] theorem snap_tup (cs : List AV) : snap σ (k + 1) (.tup cs) = (cs.mapM (snap σ k)).map .tup := rfl
@[simp] theorem snap_ptr (i : Id) (o : Nat) : snap σ (k + 1) (.ptr i o) = (σ.get i).bind fun cs => (cs.mapM (snap σ k)).map fun cs' => .iptr true cs' o := rfl
@[simp] theorem snap_sl (i : Id) (off len sz : Nat) (cap : Cap) : snap σ (k + 1) (.sl i off len cap sz) = (σ.get i).bind fun cs => if off + len * sz ≤ cs.length then (((cs.drop off).take (len * sz)).mapM (snap σ k)).map fun cs' => .isl true cs' len none else none := rfl
theorem snap_bs (x : List UInt8) : (bs x).mapM (snap σ (k + 1)) = some (bs x) := mapM_id fun y hy => by
  simp only [bs, List.mem_map] at hy
  obtain ⟨z, _, rfl⟩ := hy; rfl
end
/-- A call of a function that is called over a picture. -/
theorem ev_pure {T : Table} {f : FuncId} {nt np : Nat} {code : C} {res : List RV} (hf : T f = some ⟨nt, np, code, res, .pure⟩) (args : List AV) (σ : St) : ev T f args σ = (args.mapM (snap σ 7)).bind fun as => (pureOf (run T) ⟨nt, np, code, res, .pure⟩ as).map fun r => (r, σ) := by
  simp only [ev, callOf, fnOf, hf, depth]
theorem ev_raw {T : Table} {f : FuncId} {nt np : Nat} {code : C} {res : List RV} (hf : T f = some ⟨nt, np, code, res, .raw⟩) (args : List AV) (σ : St) : ev T f args σ = bodyOf (run T) ⟨nt, np, code, res, .raw⟩ args σ := by
  simp only [ev, callOf, fnOf, hf]

/-! with side conditions: for 'simp (disch := omega)' -/
theorem dT {p : Prop} [Decidable p] (h : p) : decide p = true := decide_eq_true h
theorem dF {p : Prop} [Decidable p] (h : ¬ p) : decide p = false := decide_eq_false h
theorem iT {α : Type} {p : Prop} [Decidable p] {a b : α} (h : p) : (if p then a else b) = a := if_pos h
theorem iF {α : Type} {p : Prop} [Decidable p] {a b : α} (h : ¬ p) : (if p then a else b) = b := if_neg h
theorem asNat_ok {k : IntKind} {n : Int} (h : 0 ≤ n) : asNat (.int k n) = some n.toNat := by simp [asNat, h]
theorem elemPtr_sl {sz k n o : Nat} {j : Id} {c : Cap} {s : Nat} (h : k < n) : elemPtr sz k (.sl j o n c s) = some (.ptr j (o + k * sz)) := by simp [elemPtr, h]
theorem elemPtr_isl {sz k n : Nat} {f : Bool} {cs : List AV} {c : Option Nat} (h : k < n) (h2 : 0 < cs.length) : elemPtr sz k (.isl f cs n c) = some (.iptr f cs (k * sz)) := by
  have : cs ≠ [] := by intro e; simp [e] at h2
  simp [elemPtr, h, this]
theorem wrap_i64 {n : Int} (h1 : -9223372036854775808 ≤ n) (h2 : n ≤ 9223372036854775807) : IntKind.i64.wrap n = n := by
  simp only [IntKind.wrap, IntKind.bits, IntKind.signed]
  simp
  omega
@[simp] theorem tmod_nat (a b : Nat) : Int.tmod (a : Int) (b : Int) = ((a % b : Nat) : Int) := (Int.ofNat_tmod a b).symm
@[simp] theorem loadAt_ptr (σ : St) (g : Bool) (n : Nat) (i : Id) (off : Nat) : loadAt σ g n (.ptr i off) = (σ.get i).bind (part g n off) := rfl
@[simp] theorem loadAt_iptr (σ : St) (g : Bool) (n : Nat) (f : Bool) (cs : List AV) (off : Nat) : loadAt σ g n (.iptr f cs off) = part g n off cs := rfl
theorem part_f {cs : List AV} {off : Nat} (h : off < cs.length) : part false 1 off cs = some cs[off] := by rw [part_one h, List.getElem?_eq_getElem h]
theorem part_t {cs : List AV} {n off : Nat} (h : off + n ≤ cs.length) : part true n off cs = some (.agg ((cs.drop off).take n)) := by simp [part, h]
theorem store_one {σ : St} {i : Id} {off : Nat} {cs : List AV} {v : AV} (hg : σ.get i = some cs) (hl : off < cs.length) (hv : ∀ l, v ≠ .agg l) (hc : v.isCell = true) : storeAt σ 1 (.ptr i off) v = some (σ.set i (some (.cells (cs.set off v)))) := by
  have hcell : v.cells = [v] := by cases v <;> first | rfl | exact absurd rfl (hv _)
  have hs : splice cs off [v] = cs.set off v := by simp only [splice, List.length_singleton, List.set_eq_take_append_cons_drop, hl, if_true, List.singleton_append]
  simp only [storeAt, hcell, List.length_singleton, if_true, storeCells, hg, List.all_cons, hc, List.all_nil, Bool.and_true, and_true]
  rw [if_pos (by omega), hs]

end Go.Vm
