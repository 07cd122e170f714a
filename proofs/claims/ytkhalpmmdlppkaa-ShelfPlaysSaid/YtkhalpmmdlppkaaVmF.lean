/-
  THE GENERIC LAYER 'Vm', part F: the operations that touch no memory.
-/
import Derived.Test.YtkhalpmmdlppkaaVmE
import Derived.Laws.Strings
import Derived.Laws.StructEq
namespace Go.Vm

def Done (K : Ctx) (σ' : St) (v : AV) (r : Result Next) : Prop :=
  ∃ K', Step K K' ∧ Rel K' σ' ∧ ((∃ v', r = .ok (.value v') K'.w ∧ VR K' v v') ∨ (r = .ok .skip K'.w ∧ v = .tup []))

theorem Done.here {K : Ctx} {σ : St} (hK : Rel K σ) {v : AV} {v' : Value} {r : Result Next} (hr : r = .ok (.value v') K.w) (hv : VR K v v') : Done K σ v r :=
  ⟨K, Step.refl K, hK, .inl ⟨v', hr, hv⟩⟩

section
variable {P : Program} {K : Ctx} {w : World}

theorem eqGuard_no (op : BinOp) (t : TypeId) (x y : Operand) (a b : Value) (h : ¬ (a = .nilIface ∧ b = .nilIface)) (h2 : ∀ p q, ¬ (a = .agg p ∧ b = .agg q)) :
    (eqGuard op t x y a b).run P w = .ok () w := by
  cases op
  case eql => cases a <;> cases b <;> first | rfl | exact absurd ⟨rfl, rfl⟩ h | exact absurd ⟨rfl, rfl⟩ (h2 _ _)
  case neq => cases a <;> cases b <;> first | rfl | exact absurd ⟨rfl, rfl⟩ h | exact absurd ⟨rfl, rfl⟩ (h2 _ _)
  all_goals rfl

theorem intOp_sound {op : BinOp} {k : IntKind} {x y : Int} {v : AV} (hs : op ≠ .shl ∧ op ≠ .shr) (h : intOp op k x y = some v) (t : TypeId) :
    ∃ v', (Go.binOp op t (.int k x) (.int k y)).run P w = .ok v' w ∧ VR K v v' := by
  cases op <;> simp only [intOp, Option.some.injEq, reduceCtorEq] at h
  case quo => split at h <;> simp only [Option.some.injEq, reduceCtorEq] at h; subst h; rename_i hy; exact ⟨_, by simp [Go.binOp, Op.intDiv, hy], .int _ _⟩
  case rem => split at h <;> simp only [Option.some.injEq, reduceCtorEq] at h; subst h; rename_i hy; exact ⟨_, by simp [Go.binOp, Op.intDiv, hy], .int _ _⟩
  case eql => subst h; exact ⟨.bool (decide (x = y)), by simp [Go.binOp, Op.intCmp]; rfl, .bool _⟩
  case neq => subst h; exact ⟨.bool (!decide (x = y)), by simp [Go.binOp, Op.intCmp, bne, BEq.beq], .bool _⟩
  case lss => subst h; exact ⟨_, by simp [Go.binOp, Op.intCmp], .bool _⟩
  case leq => subst h; exact ⟨_, by simp [Go.binOp, Op.intCmp], .bool _⟩
  case gtr => subst h; exact ⟨_, by simp [Go.binOp, Op.intCmp], .bool _⟩
  case geq => subst h; exact ⟨_, by simp [Go.binOp, Op.intCmp], .bool _⟩
  case add => subst h; exact ⟨_, by simp [Go.binOp, Op.intArith], .int _ _⟩
  case sub => subst h; exact ⟨_, by simp [Go.binOp, Op.intArith], .int _ _⟩
  case mul => subst h; exact ⟨_, by simp [Go.binOp, Op.intArith], .int _ _⟩
  case and => subst h; exact ⟨_, by simp [Go.binOp, intBits_and], .int _ _⟩
  case or => subst h; exact ⟨_, by simp [Go.binOp, intBits_or], .int _ _⟩
  case xor => subst h; exact ⟨_, by simp [Go.binOp, intBits_xor], .int _ _⟩
  case andNot => subst h; exact ⟨_, by simp [Go.binOp, intBits_andNot], .int _ _⟩

theorem shift_sound {op : BinOp} {k k' : IntKind} {x y : Int} {v : AV} (hs : op = .shl ∨ op = .shr) (h : shiftOp op k x y = some v) (t : TypeId) :
    ∃ v', (Go.binOp op t (.int k x) (.int k' y)).run P w = .ok v' w ∧ VR K v v' := by
  unfold shiftOp at h
  split at h
  · simp at h
  · rename_i hy
    rcases hs with rfl | rfl <;> simp only [Option.some.injEq] at h <;> subst h <;>
    exact ⟨_, by simp [Go.binOp, Op.shift, hy], .int _ _⟩

theorem strOp_sound {op : BinOp} {x y : List UInt8} {v : AV} (h : strOp op x y = some v) (t : TypeId) :
    ∃ v', (Go.binOp op t (.string ⟨x.toArray⟩) (.string ⟨y.toArray⟩)).run P w = .ok v' w ∧ VR K v v' := by
  have hbeq : (x == y) = decide (x = y) := by rw [Bool.eq_iff_iff]; simp
  cases op <;> simp only [strOp, Option.some.injEq, reduceCtorEq] at h
  case add =>
    split at h <;> simp only [Option.some.injEq, reduceCtorEq] at h
    subst h
    rename_i hle
    refine ⟨.string ⟨(x ++ y).toArray⟩, ?_, .str _⟩
    have hs : ¬ (((ByteArray.mk x.toArray).size + (ByteArray.mk y.toArray).size : Nat) : Int) > IntKind.i64.max := by
      simp [IntKind.max, IntKind.signed, IntKind.bits, ByteArray.size]; omega
    simp only [Go.binOp, Op.stringOp, if_neg hs, Sem.run_pure]
    congr 2
  case eql => subst h; exact ⟨_, by simp only [Go.binOp, Op.stringOp, ByteArray.toList_mk, hbeq]; rfl, .bool _⟩
  case neq => subst h; exact ⟨_, by simp only [Go.binOp, Op.stringOp, ByteArray.toList_mk, hbeq]; rfl, .bool _⟩
  case lss => subst h; exact ⟨_, by simp only [Go.binOp, Op.stringOp, ByteArray.toList_mk]; rfl, .bool _⟩
  case leq => subst h; exact ⟨_, by simp only [Go.binOp, Op.stringOp, ByteArray.toList_mk, hbeq]; rfl, .bool _⟩
  case gtr => subst h; exact ⟨_, by simp only [Go.binOp, Op.stringOp, ByteArray.toList_mk, hbeq]; rfl, .bool _⟩
  case geq => subst h; exact ⟨_, by simp only [Go.binOp, Op.stringOp, ByteArray.toList_mk]; rfl, .bool _⟩

theorem binOp_sound {op : BinOp} {x y v : AV} {vx vy : Value} (hx : VR K x vx) (hy : VR K y vy) (h : binOp op x y = some v) (t : TypeId) (ox oy : Operand) :
    ∃ v', (do eqGuard op t ox oy vx vy; Go.binOp op t vx vy : Sem Value).run P w = .ok v' w ∧ VR K v v' := by
  unfold binOp at h
  split at h
  · cases hx; cases hy
    rename_i k a k' b
    have hg : (eqGuard op t ox oy (.int k a) (.int k' b)).run P w = .ok () w := eqGuard_no _ _ _ _ _ _ (by simp) (by simp)
    simp only [Sem.run_bind, hg, Result.andThen_ok]
    by_cases hop : op = .shl ∨ op = .shr
    · have : shiftOp op k a b = some v := by rcases hop with rfl | rfl <;> exact h
      exact shift_sound hop this t
    · have hop' : op ≠ .shl ∧ op ≠ .shr := ⟨fun e => hop (.inl e), fun e => hop (.inr e)⟩
      have : (if k = k' then intOp op k a b else none) = some v := by
        cases op <;> first | exact h | exact absurd rfl hop'.1 | exact absurd rfl hop'.2
      split at this
      · rename_i e; subst e; exact intOp_sound hop' this t
      · simp at this
  · cases hx; cases hy
    rename_i a b
    have hg : (eqGuard op t ox oy (.string ⟨a.toArray⟩) (.string ⟨b.toArray⟩)).run P w = .ok () w := eqGuard_no _ _ _ _ _ _ (by simp) (by simp)
    simp only [Sem.run_bind, hg, Result.andThen_ok]
    exact strOp_sound h t
  · simp at h

theorem unOp_sound {op : UnOp} {x v : AV} {vx : Value} (hx : VR K x vx) (h : unOp op x = some v) : ∃ v', (Op.unary op vx).run P w = .ok v' w ∧ VR K v v' := by
  unfold unOp at h
  split at h <;> simp only [Option.some.injEq, reduceCtorEq] at h <;> subst h <;> cases hx
  · exact ⟨_, rfl, .int _ _⟩
  · exact ⟨_, rfl, .int _ _⟩
  · exact ⟨_, rfl, .bool _⟩

/-! ### equality -/

/-- A part of a struct's cells. -/
theorem part_agg {cs : List AV} {vs : List Value} (h : VRs K cs vs) (hc : cs.all AV.isCell = true) {agg : Bool} {n off : Nat} {v : AV} (hp : part agg n off cs = some v)
    {t : TypeId} (ht : shapeOf P t = some (agg, n)) : ∃ v', (Go.part t vs.toArray off).run P w = .ok v' w ∧ VR K v v' := by
  obtain ⟨hs, ha⟩ := run_sizeOf' ht w
  unfold part at hp
  split at hp
  · rename_i hle
    cases agg with
    | true =>
      simp at hp; subst hp
      refine ⟨.agg ((vs.drop off).take n).toArray, ?_, VR.aggOf ((h.drop off).take n) ?_⟩
      · simp [Go.part, ha, hs]
      · rw [List.all_eq_true] at hc ⊢
        exact fun x hx => hc x (List.mem_of_mem_drop (List.mem_of_mem_take hx))
    | false =>
      simp at hp
      obtain ⟨hlt, rfl⟩ := List.getElem?_eq_some_iff.1 hp
      have hlt' : off < vs.length := h.1 ▸ hlt
      have := h.2 off hlt
      rw [List.getElem?_eq_getElem hlt'] at this
      refine ⟨vs[off], ?_, this⟩
      simp [Go.part, ha, hlt']
  · simp at hp


theorem eqv_int {x y : AV} {b : Bool} (h : eqv .int x y = some b) : ∃ k a c, x = .int k a ∧ y = .int k c ∧ b = decide (a = c) := by
  cases x <;> cases y <;> simp [eqv] at h
  exact ⟨_, _, _, rfl, by rw [h.1], h.2.symm⟩
theorem eqv_bool {x y : AV} {b : Bool} (h : eqv .bool x y = some b) : ∃ a c, x = .bool a ∧ y = .bool c ∧ b = (a == c) := by
  cases x <;> cases y <;> simp [eqv] at h
  exact ⟨_, _, rfl, rfl, h.symm⟩
theorem eqv_str {x y : AV} {b : Bool} (h : eqv .str x y = some b) : ∃ a c, x = .str a ∧ y = .str c ∧ b = decide (a = c) := by
  cases x <;> cases y <;> simp [eqv] at h
  exact ⟨_, _, rfl, rfl, h.symm⟩
theorem eqv_st {fs : List (Nat × Nat × EqT)} {x y : AV} {b : Bool} (h : eqv (.st fs) x y = some b) : ∃ a c, x = .agg a ∧ y = .agg c ∧ eqvL fs a c = some b := by
  cases x <;> cases y <;> simp [eqv] at h
  exact ⟨_, _, rfl, rfl, h⟩

theorem eqtOf_agg {n : Nat} {t : TypeId} {q : EqT} {agg : Bool} {sz : Nat} (h : eqtOf P n t = some q) (hs : shapeOf P t = some (agg, sz)) : isSt q = agg := by
  cases n with
  | zero => simp [eqtOf] at h
  | succ n =>
    unfold shapeOf at hs
    split at hs
    · rename_i d i h1 h2
      simp only [Option.some.injEq, Prod.mk.injEq] at hs
      obtain ⟨rfl, _⟩ := hs
      simp only [eqtOf, h1] at h
      cases d <;> simp only [Option.some.injEq, reduceCtorEq] at h <;> first | (subst h; rfl) | skip
      split at h
      · simp at h
      · simp only [Option.map_eq_some_iff] at h
        obtain ⟨l, _, rfl⟩ := h; rfl
    · simp at hs

theorem eqt_sound (n : Nat) :
    (∀ (t : TypeId) (q : EqT), eqtOf P n t = some q → ∀ d, n ≤ d → ∀ (x y : AV) (vx vy : Value) (b : Bool), VR K x vx → VR K y vy → eqv q x y = some b → ∀ w, (Op.equalIn d t vx vy).run P w = .ok b w) ∧
    (∀ (fs : List Field) (l : List (Nat × Nat × EqT)), eqtFields P n fs = some l → ∀ d, n ≤ d → ∀ (xs ys : List AV) (vxs vys : List Value) (b : Bool), VRs K xs vxs → VRs K ys vys →
      xs.all AV.isCell = true → ys.all AV.isCell = true → eqvL l xs ys = some b → ∀ w, (Op.eqFields d vxs.toArray vys.toArray fs).run P w = .ok b w) := by
  induction n with
  | zero =>
    refine ⟨fun t q h => by simp [eqtOf] at h, fun fs l h d hd xs ys vxs vys b hx hy _ _ he w => ?_⟩
    cases fs with
    | nil => simp [eqtFields] at h; subst h; simp [eqvL] at he; subst he; simp [Op.eqFields]
    | cons f fs => simp [eqtFields] at h
  | succ n ih =>
    refine ⟨fun t q h d hd x y vx vy b hx hy he w => ?_, fun fs l h d hd xs ys vxs vys b hx hy hcx hcy he w => ?_⟩
    · obtain ⟨d, rfl⟩ : ∃ m, d = m + 1 := ⟨d - 1, by omega⟩
      unfold eqtOf at h
      split at h
      · rename_i k hu
        simp only [Option.some.injEq] at h; subst h
        obtain ⟨k, a, c, rfl, rfl, rfl⟩ := eqv_int he
        cases hx; cases hy
        exact run_equalIn_int w d t _ _ _ _ hu
      · rename_i hu
        simp only [Option.some.injEq] at h; subst h
        obtain ⟨a, c, rfl, rfl, rfl⟩ := eqv_bool he
        cases hx; cases hy
        exact run_equalIn_bool' w d t _ _ hu
      · rename_i hu
        simp only [Option.some.injEq] at h; subst h
        obtain ⟨a, c, rfl, rfl, rfl⟩ := eqv_str he
        cases hx; cases hy
        rw [run_equalIn_string w d t _ _ hu]
        simp only [ByteArray.toList_mk]
        congr 1
        rw [Bool.eq_iff_iff]; simp
      · rename_i fs hu
        split at h
        · simp at h
        · rename_i hst
          simp only [Option.map_eq_some_iff] at h
          obtain ⟨l, hl, rfl⟩ := h
          obtain ⟨xs, ys, rfl, rfl, he⟩ := eqv_st he
          cases hx with
          | agg gx h1 hcx hvx =>
            cases hy with
            | agg gy h2 hcy hvy =>
              have hf : P.fieldsOf t = fs := by simp [Program.fieldsOf, hu]
              have := run_equalIn_struct (P := P) w d t gx gy (by rw [hf]; exact hu) (by simpa using hst)
              rw [this, hf]
              have := ih.2 fs.toList l hl d (by omega) xs ys gx.toList gy.toList b ⟨by simpa using h1, fun j hj => by simpa using hvx j hj⟩ ⟨by simpa using h2, fun j hj => by simpa using hvy j hj⟩ hcx hcy he w
              simpa using this
      · simp at h
    · cases fs with
      | nil => simp [eqtFields] at h; subst h; simp [eqvL] at he; subst he; simp [Op.eqFields]
      | cons f fs =>
        simp only [eqtFields] at h
        split at h
        · simp at h
        · rename_i hname
          split at h
          · rename_i agg sz q l' h1 h2 h3
            simp only [Option.some.injEq] at h; subst h
            have hag := eqtOf_agg h2 h1
            simp only [eqvL] at he
            rw [hag] at he
            split at he
            · rename_i px py hpx hpy
              obtain ⟨va, hra, hva⟩ := part_agg (P := P) (w := w) hx hcx hpx h1
              obtain ⟨vb, hrb, hvb⟩ := part_agg (P := P) (w := w) hy hcy hpy h1
              split at he
              · rename_i heq
                have hr := ih.1 f.type q h2 d (by omega) px py va vb true hva hvb heq w
                have := ih.2 fs l' h3 d (by omega) xs ys vxs vys b hx hy hcx hcy he w
                simp only [Op.eqFields, ne_eq, hname, not_false_eq_true, if_true, Sem.run_bind, hra, hrb, hr, Result.andThen_ok, Bool.not_true, Bool.false_eq_true, if_false, this]
              · rename_i heq
                have hr := ih.1 f.type q h2 d (by omega) px py va vb false hva hvb heq w
                simp only [Option.some.injEq] at he; subst he
                simp only [Op.eqFields, ne_eq, hname, not_false_eq_true, if_true, Sem.run_bind, hra, hrb, hr, Result.andThen_ok, Bool.not_false, Sem.run_pure]
              · simp at he
            · simp at he
          · simp at h

end
end Go.Vm
