/-
  THE GENERIC LAYER 'Vm', part L: one operation.
-/
import Derived.Test.YtkhalpmmdlppkaaVmK
namespace Go.Vm

def Ins.isCall : Ins → Bool
  | .call _ _ | .callV _ _ | .invoke _ _ _ => true
  | .makeMap | .lookup .. | .mapUpd .. | .delete .. => true
  | _ => false

section
variable {P : Program} {K : Ctx}

theorem Done.step {σ' : St} {v : AV} {r : Result Next} (h : ∃ K' v', r = .ok (.value v') K'.w ∧ Step K K' ∧ Rel K' σ' ∧ VR K' v v') : Done K σ' v r := by
  obtain ⟨K', v', h1, h2, h3, h4⟩ := h
  exact ⟨K', h2, h3, .inl ⟨v', h1, h4⟩⟩

theorem Done.pure {σ : St} (hK : Rel K σ) {v : AV} {r : Result Next} (h : ∃ v', r = .ok (.value v') K.w ∧ VR K v v') : Done K σ v r := by
  obtain ⟨v', h1, h2⟩ := h
  exact Done.here hK h1 h2

/-- From a step that hands back a value to the operation that wraps it. -/
theorem wrapV {s : Sem Value} {w w' : World} {v' : Value} (h : s.run P w = .ok v' w') : (do pure (Next.value (← s)) : Sem Next).run P w = .ok (.value v') w' := by
  simp [h]

theorem run_builtin {ρ : Operand → Value} {o : Oper} {b : Builtin} {args : Array Operand} {argTypes : Array TypeId} (ho : o.op = .call ⟨.builtin b, args, argTypes⟩) (w : World) :
    (execOp ρ o).run P w = (builtin b argTypes o.type (args.map fun | .const _ => true | _ => false) (args.map ρ)).run P w := by
  obtain ⟨dst, op, ty, pos, after, guard⟩ := o
  simp only at ho; subst ho
  simp only [execOp, resolve, Sem.run_bind, Sem.run_pure, Result.andThen_ok, invoke]
  rfl

def sameNum : Value → Value → Bool
  | .int _ _, .int _ _ | .float _ _, .float _ _ | .complex _ _ _, .complex _ _ _ | .string _, .string _ => true
  | _, _ => false

theorem binOp_eql {t : TypeId} {x y : Value} (h : sameNum x y = false) : Go.binOp .eql t x y = (do pure (.bool (← Op.equal t x y)) : Sem Value) := by
  cases x <;> cases y <;> first | rfl | simp [sameNum] at h
theorem binOp_neq {t : TypeId} {x y : Value} (h : sameNum x y = false) : Go.binOp .neq t x y = (do pure (.bool (!(← Op.equal t x y))) : Sem Value) := by
  cases x <;> cases y <;> first | rfl | simp [sameNum] at h

theorem eq_run {op : BinOp} {neg : Bool} {t : TypeId} {x y : Operand} {vx vy : Value} {b : Bool} {w : World} (hop : neg = false ∧ op = .eql ∨ neg = true ∧ op = .neq) (hs : sameNum vx vy = false)
    (hg : (eqGuard op t x y vx vy).run P w = .ok () w) (he : (Op.equalIn 10000 t vx vy).run P w = .ok b w) :
    (do eqGuard op t x y vx vy; Go.binOp op t vx vy : Sem Value).run P w = .ok (.bool (if neg then !b else b)) w := by
  have he' : (Op.equal t vx vy).run P w = .ok b w := he
  rcases hop with ⟨rfl, rfl⟩ | ⟨rfl, rfl⟩
  · simp only [Sem.run_bind, hg, Result.andThen_ok, binOp_eql hs, he', Sem.run_pure]; rfl
  · simp only [Sem.run_bind, hg, Result.andThen_ok, binOp_neq hs, he', Sem.run_pure]; rfl

theorem eqGuard_const {op : BinOp} {t : TypeId} {x y : Operand} (hc : (isConst x || isConst y) = true) (w : World) : (eqGuard op t x y .nilIface .nilIface).run P w = .ok () w := by
  have : ((x matches .const _) || (y matches .const _)) = true := by
    revert hc; cases x <;> cases y <;> simp [isConst]
  cases op <;> first | rfl | skip
  all_goals
    simp only [eqGuard]
    revert this
    cases x <;> cases y <;> simp

theorem eqGuard_agg {op : BinOp} {t : TypeId} {x y : Operand} (hg : P.eqGuardType P.depth t = false) (p q : Array Value) (w : World) : (eqGuard op t x y (.agg p) (.agg q)).run P w = .ok () w := by
  cases op <;> first | rfl | skip
  all_goals simp [eqGuard, hg]

theorem ret1_some {σ σ' : St} {x : Option AV} {v : AV} (h : ret1 σ x = some (v, σ')) : x = some v ∧ σ' = σ := by
  unfold ret1 at h
  simp only [Option.map_eq_some_iff, Prod.mk.injEq] at h
  obtain ⟨y, h1, rfl, rfl⟩ := h
  exact ⟨h1, rfl⟩

theorem ins_sound {E : CallH} {σ σ' : St} (hK : Rel K σ) {nt : Nat} {ρ : Env} {a : Act} (hρ : EnvR K nt ρ a) {o : Oper} {i : Ins} (ht : trIns P nt o.op = some i) (hc : i.isCall = false) {v : AV}
    (h : i.ev E ρ σ = some (v, σ')) : Done K σ' v ((execOp a.eval o).run P K.w) := by
  obtain ⟨dst, op, ty, pos, after, guard⟩ := o
  simp only at ht
  cases op <;> simp only [trIns, reduceCtorEq] at ht
  case move x =>
    simp only [Option.map_eq_some_iff] at ht; obtain ⟨x', hx, rfl⟩ := ht
    simp only [Ins.ev, Option.some.injEq, Prod.mk.injEq] at h; obtain ⟨rfl, rfl⟩ := h
    exact Done.here hK rfl (arg_sound hρ hx)
  case assign x =>
    simp only [Option.map_eq_some_iff] at ht; obtain ⟨x', hx, rfl⟩ := ht
    simp only [Ins.ev, Option.some.injEq, Prod.mk.injEq] at h; obtain ⟨rfl, rfl⟩ := h
    exact Done.here hK rfl (arg_sound hρ hx)
  case pick c x y =>
    simp only [Option.bind_eq_some_iff, Option.map_eq_some_iff] at ht; obtain ⟨c', hc', x', hx, y', hy, rfl⟩ := ht
    simp only [Ins.ev] at h
    split at h <;> try simp only [Option.some.injEq, Prod.mk.injEq, reduceCtorEq] at h
    rename_i t heq
    obtain ⟨rfl, rfl⟩ := h
    have hcv := arg_sound hρ hc'
    rw [heq] at hcv
    have e : a.eval c = .bool t := by generalize a.eval c = q at hcv; cases hcv; rfl
    refine Done.pure hK ⟨if t then a.eval x else a.eval y, by simp [execOp, e, asBool], ?_⟩
    cases t
    · exact arg_sound hρ hy
    · exact arg_sound hρ hx
  case alloc t =>
    simp only [Option.map_eq_some_iff] at ht; obtain ⟨z, hz, rfl⟩ := ht
    simp only [Ins.ev, Option.map_eq_some_iff, Prod.mk.injEq] at h; obtain ⟨⟨j, σ1⟩, hn, rfl, rfl⟩ := h
    obtain ⟨K', v', h1, h2⟩ := alloc_sound (P := P) hK hz hn
    exact Done.step ⟨K', v', by simp only [execOp]; exact wrapV h1, h2⟩
  case box t x =>
    simp only [Option.map_eq_some_iff] at ht; obtain ⟨x', hx, rfl⟩ := ht
    simp only [Ins.ev, Option.map_eq_some_iff, Prod.mk.injEq] at h; obtain ⟨⟨j, σ1⟩, hn, rfl, rfl⟩ := h
    obtain ⟨K', v', h1, h2⟩ := box_sound (P := P) hK (t := t) (arg_sound hρ hx) hn
    exact Done.step ⟨K', v', by simp only [execOp]; exact wrapV h1, h2⟩
  case build t parts =>
    simp only [Option.bind_eq_some_iff] at ht; obtain ⟨z, hz, ht⟩ := ht
    have main : ∀ ps, ((∃ fields pl, P.underlying t = some (.struct fields) ∧ placesOf P fields = some pl ∧ trParts nt (pl[·]?) parts.toList = some ps) ∨
      (∃ n e sh, P.underlying t = some (.array n e) ∧ shapeOf P e = some sh ∧ trParts nt (fun i => some (i * sh.2, sh.2)) parts.toList = some ps)) → i = .build z ps → Done K σ' v ((execOp a.eval ⟨dst, .build t parts, ty, pos, after, guard⟩).run P K.w) := by
      intro ps hp e; subst e
      simp only [Ins.ev, Option.map_eq_some_iff, Prod.mk.injEq] at h; obtain ⟨cs, hf, rfl, rfl⟩ := h
      obtain ⟨v', h1, h2⟩ := build_sound hρ hz hp hf
      exact Done.pure hK ⟨v', by simp only [execOp]; exact wrapV h1, h2⟩
    split at ht
    · rename_i fields hu
      simp only [Option.bind_eq_some_iff, Option.map_eq_some_iff] at ht
      obtain ⟨pl, hpl, ps, hps, rfl⟩ := ht
      exact main ps (.inl ⟨fields, pl, hu, hpl, hps⟩) rfl
    · rename_i n e hu
      simp only [Option.bind_eq_some_iff, Option.map_eq_some_iff] at ht
      obtain ⟨sh, hsh, ps, hps, rfl⟩ := ht
      exact main ps (.inr ⟨n, e, sh, hu, hsh, hps⟩) rfl
    · simp at ht
  case buildSlice t n parts =>
    split at ht
    · rename_i e hu
      simp only [Option.bind_eq_some_iff] at ht; obtain ⟨sh, hsh, z, hz, ht⟩ := ht
      split at ht <;> try simp only [Option.map_eq_some_iff, reduceCtorEq] at ht
      rename_i hcond
      obtain ⟨ps, hps, rfl⟩ := ht
      simp only [Ins.ev, Option.bind_eq_some_iff, Option.map_eq_some_iff, Prod.mk.injEq] at h; obtain ⟨cs, hf, ⟨j, σ1⟩, hn, rfl, rfl⟩ := h
      obtain ⟨K', v', h1, h2⟩ := buildSl_sound hK hρ hu hsh hz hcond.1 hcond.2.1 hcond.2.2 hps hf hn
      exact Done.step ⟨K', v', by simp only [execOp]; exact wrapV h1, h2⟩
    · simp at ht
  case load t x =>
    simp only [Option.bind_eq_some_iff, Option.map_eq_some_iff] at ht; obtain ⟨sh, hsh, x', hx, rfl⟩ := ht
    simp only [Ins.ev] at h
    obtain ⟨hl, rfl⟩ := ret1_some h
    obtain ⟨v', h1, h2⟩ := loadAt_sound (P := P) hK (arg_sound hρ hx) hl (t := t) hsh
    exact Done.pure hK ⟨v', by simp only [execOp]; exact wrapV h1, h2⟩
  case store t x y =>
    simp only [Option.bind_eq_some_iff, Option.map_eq_some_iff] at ht; obtain ⟨sh, hsh, x', hx, y', hy, rfl⟩ := ht
    simp only [Ins.ev, Option.map_eq_some_iff, Prod.mk.injEq] at h; obtain ⟨σ1, hs, rfl, rfl⟩ := h
    obtain ⟨K', h1, h2, h3⟩ := storeAt_sound (P := P) hK (arg_sound hρ hx) (arg_sound hρ hy) hs (t := t) hsh
    exact ⟨K', h2, h3, .inr ⟨by simp [execOp, h1], rfl⟩⟩
  case nilCheck x =>
    simp only [Option.map_eq_some_iff] at ht; obtain ⟨x', hx, rfl⟩ := ht
    simp only [Ins.ev] at h
    have hv := arg_sound hρ hx
    have key : ∀ q, a.eval x = q → (match q with | .pointer none | .nilIface | .nilFunc => False | .func (.method _) _ _ => False | _ => True) →
        (execOp a.eval ⟨dst, .nilCheck x, ty, pos, after, guard⟩).run P K.w = .ok (.value q) K.w := by
      intro q e hq
      simp only [execOp, e]
      cases q <;> simp at hq ⊢
      case pointer p => cases p <;> simp at hq ⊢
      case func fn _ _ => cases fn <;> simp at hq ⊢
    split at h <;> try simp only [Option.some.injEq, Prod.mk.injEq, reduceCtorEq] at h
    all_goals
      rename_i heq
      obtain ⟨rfl, rfl⟩ := h
      rw [heq] at hv
      refine Done.pure hK ⟨a.eval x, key _ rfl ?_, hv⟩
      generalize a.eval x = q at hv
      cases hv <;> trivial
  case binOp op t x y yt =>
    simp only [Option.bind_eq_some_iff] at ht; obtain ⟨x', hx, y', hy, ht⟩ := ht
    have hxv := arg_sound hρ hx
    have hyv := arg_sound hρ hy
    have hrun : ∀ v', (do eqGuard op t x y (a.eval x) (a.eval y); Go.binOp op t (a.eval x) (a.eval y) : Sem Value).run P K.w = .ok v' K.w →
        (execOp a.eval ⟨dst, .binOp op t x y yt, ty, pos, after, guard⟩).run P K.w = .ok (.value v') K.w := fun v' h => by
      simp only [execOp]; exact wrapV h
    have num : i = .bin op x' y' → Done K σ' v ((execOp a.eval ⟨dst, .binOp op t x y yt, ty, pos, after, guard⟩).run P K.w) := by
      rintro rfl
      simp only [Ins.ev] at h
      obtain ⟨hb, rfl⟩ := ret1_some h
      obtain ⟨v', h1, h2⟩ := binOp_sound (P := P) (w := K.w) hxv hyv hb t x y
      exact Done.pure hK ⟨v', hrun _ h1, h2⟩
    have eqs : ∀ (neg : Bool) (q : EqT), (neg = false ∧ op = .eql ∨ neg = true ∧ op = .neq) → i = .eq neg q x' y' →
        (∀ b, eqv q (x'.get ρ) (y'.get ρ) = some b → sameNum (a.eval x) (a.eval y) = false ∧ (eqGuard op t x y (a.eval x) (a.eval y)).run P K.w = .ok () K.w ∧ (Op.equalIn 10000 t (a.eval x) (a.eval y)).run P K.w = .ok b K.w) →
        Done K σ' v ((execOp a.eval ⟨dst, .binOp op t x y yt, ty, pos, after, guard⟩).run P K.w) := by
      intro neg q hop e hb; subst e
      simp only [Ins.ev, Option.map_eq_some_iff, Prod.mk.injEq] at h
      obtain ⟨b, he, rfl, rfl⟩ := h
      obtain ⟨k1, k2, k3⟩ := hb b he
      exact Done.pure hK ⟨_, hrun _ (eq_run hop k1 k2 k3), .bool _⟩
    have nils : ∀ (neg : Bool) (nk : NK) (dd : TypeDesc), (neg = false ∧ op = .eql ∨ neg = true ∧ op = .neq) → i = .eq neg (.nil nk) x' y' → P.underlying t = some dd → nkOf dd = some nk → (nk = .i → (isConst x || isConst y) = true) →
        Done K σ' v ((execOp a.eval ⟨dst, .binOp op t x y yt, ty, pos, after, guard⟩).run P K.w) := by
      intro neg nk dd hop e hu hk hcst
      refine eqs neg (.nil nk) hop e fun b hb => ⟨?_, ?_, eqnil_sound (P := P) hu hk 9999 hxv hyv hb⟩
      · generalize x'.get ρ = xa at hxv hb
        generalize y'.get ρ = ya at hyv hb
        generalize a.eval x = p at hxv
        generalize a.eval y = q at hyv
        cases hxv <;> cases hyv <;> first | rfl | (cases nk <;> simp [eqv] at hb)
      · by_cases hn : a.eval x = .nilIface ∧ a.eval y = .nilIface
        · rw [hn.1] at hxv; rw [hn.2] at hyv; rw [hn.1, hn.2]
          refine eqGuard_const (hcst ?_) _
          generalize x'.get ρ = xa at hxv hb
          generalize y'.get ρ = ya at hyv hb
          cases hxv; cases hyv
          cases nk <;> simp [eqv] at hb ⊢
        · refine eqGuard_no op t x y _ _ hn (fun p q hpq => ?_)
          rw [hpq.1] at hxv
          generalize x'.get ρ = xa at hxv hb
          cases hxv
          cases nk <;> cases (y'.get ρ) <;> simp [eqv] at hb
    split at ht
    · simp only [Option.some.injEq] at ht; exact num ht.symm
    · simp only [Option.some.injEq] at ht; exact num ht.symm
    · rename_i hu
      have bools : ∀ neg, (neg = false ∧ op = .eql ∨ neg = true ∧ op = .neq) → i = .eq neg .bool x' y' → Done K σ' v ((execOp a.eval ⟨dst, .binOp op t x y yt, ty, pos, after, guard⟩).run P K.w) := by
        intro neg hop e
        refine eqs neg .bool hop e fun b hb => ?_
        obtain ⟨p, q, e1, e2, rfl⟩ := eqv_bool hb
        rw [e1] at hxv; rw [e2] at hyv
        generalize a.eval x = vx at hxv
        generalize a.eval y = vy at hyv
        cases hxv; cases hyv
        exact ⟨rfl, eqGuard_no _ _ _ _ _ _ (by simp) (by simp), run_equalIn_bool' K.w 9999 t p q hu⟩
      split at ht <;> try simp only [Option.some.injEq, reduceCtorEq] at ht
      · exact bools false (.inl ⟨rfl, rfl⟩) ht.symm
      · exact bools true (.inr ⟨rfl, rfl⟩) ht.symm
    · rename_i hu
      split at ht <;> try simp only [Option.some.injEq, reduceCtorEq] at ht
      · exact nils false .p _ (.inl ⟨rfl, rfl⟩) ht.symm hu rfl (by simp)
      · exact nils true .p _ (.inr ⟨rfl, rfl⟩) ht.symm hu rfl (by simp)
    · rename_i hu
      split at ht <;> try simp only [Option.some.injEq, reduceCtorEq] at ht
      · exact nils false .s _ (.inl ⟨rfl, rfl⟩) ht.symm hu rfl (by simp)
      · exact nils true .s _ (.inr ⟨rfl, rfl⟩) ht.symm hu rfl (by simp)
    · rename_i hu
      split at ht <;> try simp only [Option.some.injEq, reduceCtorEq] at ht
      · exact nils false .m _ (.inl ⟨rfl, rfl⟩) ht.symm hu rfl (by simp)
      · exact nils true .m _ (.inr ⟨rfl, rfl⟩) ht.symm hu rfl (by simp)
    · rename_i hu
      split at ht <;> try simp only [Option.some.injEq, reduceCtorEq] at ht
      · exact nils false .f _ (.inl ⟨rfl, rfl⟩) ht.symm hu rfl (by simp)
      · exact nils true .f _ (.inr ⟨rfl, rfl⟩) ht.symm hu rfl (by simp)
    · rename_i hu
      split at ht <;> try simp only [reduceCtorEq] at ht
      rename_i hcst
      split at ht <;> try simp only [Option.some.injEq, reduceCtorEq] at ht
      · exact nils false .i _ (.inl ⟨rfl, rfl⟩) ht.symm hu rfl (fun _ => hcst)
      · exact nils true .i _ (.inr ⟨rfl, rfl⟩) ht.symm hu rfl (fun _ => hcst)
    · rename_i fs hu
      split at ht <;> try simp only [reduceCtorEq] at ht
      rename_i hgt
      simp only [Option.bind_eq_some_iff] at ht
      obtain ⟨q, hq, ht⟩ := ht
      have sts : ∀ neg, (neg = false ∧ op = .eql ∨ neg = true ∧ op = .neq) → i = .eq neg q x' y' → Done K σ' v ((execOp a.eval ⟨dst, .binOp op t x y yt, ty, pos, after, guard⟩).run P K.w) := by
        intro neg hop e
        refine eqs neg q hop e fun b hb => ?_
        have he := (eqt_sound (P := P) (K := K) 9).1 t q hq 10000 (by omega) _ _ _ _ b hxv hyv hb K.w
        simp only [eqtOf, hu] at hq
        split at hq
        · simp at hq
        simp only [Option.map_eq_some_iff] at hq
        obtain ⟨l, _, rfl⟩ := hq
        obtain ⟨p, q, e1, e2, _⟩ := eqv_st hb
        rw [e1] at hxv; rw [e2] at hyv
        generalize a.eval x = vx at hxv he
        generalize a.eval y = vy at hyv he
        cases hxv; cases hyv
        exact ⟨rfl, eqGuard_agg (by simpa using hgt) _ _ _, he⟩
      split at ht <;> try simp only [Option.some.injEq, reduceCtorEq] at ht
      · exact sts false (.inl ⟨rfl, rfl⟩) ht.symm
      · exact sts true (.inr ⟨rfl, rfl⟩) ht.symm
    · simp at ht
  case unOp op t x =>
    simp only [Option.map_eq_some_iff] at ht; obtain ⟨x', hx, rfl⟩ := ht
    simp only [Ins.ev] at h
    obtain ⟨hb, rfl⟩ := ret1_some h
    obtain ⟨v', h1, h2⟩ := unOp_sound (P := P) (w := K.w) (arg_sound hρ hx) hb
    exact Done.pure hK ⟨v', by simp only [execOp]; exact wrapV h1, h2⟩
  case convert src dst' x =>
    simp only [Option.bind_eq_some_iff] at ht; obtain ⟨x', hx, ht⟩ := ht
    have hxv := arg_sound hρ hx
    split at ht
    · rename_i k hu hd
      simp only [Option.some.injEq] at ht; subst ht
      simp only [Ins.ev] at h
      split at h <;> try simp only [Option.some.injEq, Prod.mk.injEq, reduceCtorEq] at h
      rename_i k' n heq
      obtain ⟨rfl, rfl⟩ := h
      rw [heq] at hxv
      have e : a.eval x = .int k' n := by generalize a.eval x = q at hxv; cases hxv; rfl
      refine Done.pure hK ⟨.int k (k.wrap n), ?_, .int _ _⟩
      simp only [execOp]
      exact wrapV (by simp [Go.convert, run_underlying hu, run_underlying hd, e, Conv.intToInt])
    · rename_i hu hd
      simp only [Option.some.injEq] at ht; subst ht
      simp only [Ins.ev] at h
      split at h <;> try simp only [Option.some.injEq, Prod.mk.injEq, reduceCtorEq] at h
      rename_i s heq
      obtain ⟨rfl, rfl⟩ := h
      rw [heq] at hxv
      have e : a.eval x = .string ⟨s.toArray⟩ := by generalize a.eval x = q at hxv; cases hxv; rfl
      refine Done.pure hK ⟨.string ⟨s.toArray⟩, ?_, .str _⟩
      simp only [execOp, e]
      exact wrapV (by simp [Go.convert, run_underlying hu, run_underlying hd])
    · rename_i e0 e hu hd
      split at ht <;> try simp only [reduceCtorEq] at ht
      rename_i hsd
      subst hsd
      split at ht <;> try simp only [Option.some.injEq, reduceCtorEq] at ht
      rename_i he
      subst ht
      simp only [Ins.ev] at h
      split at h <;> try simp only [Option.map_eq_some_iff, Prod.mk.injEq, reduceCtorEq] at h
      rename_i i o n c z heq
      obtain ⟨cs, hg, rfl, rfl⟩ := h
      rw [heq] at hxv
      obtain ⟨K', h1, h2, h3, h4⟩ := convSl_sound (P := P) hK hxv hg hd he
      exact Done.step ⟨K', a.eval x, by simp only [execOp]; exact wrapV h1, h2, h3, h4⟩
    · rename_i e hu hd
      split at ht <;> try simp only [Option.some.injEq, reduceCtorEq] at ht
      rename_i he
      subst ht
      simp only [Ins.ev] at h
      split at h <;> try simp only [reduceCtorEq] at h
      rename_i s heq
      split at h <;> try simp only [Option.map_eq_some_iff, Prod.mk.injEq, reduceCtorEq] at h
      obtain ⟨⟨j, σ1⟩, hn, rfl, rfl⟩ := h
      rw [heq] at hxv
      have e : a.eval x = .string ⟨s.toArray⟩ := by generalize a.eval x = q at hxv; cases hxv; rfl
      obtain ⟨K', v', h1, h2⟩ := bytesOf_sound (P := P) hK hn hu hd he
      exact Done.step ⟨K', v', by simp only [execOp, e]; exact wrapV h1, h2⟩
    · rename_i e hu hd
      split at ht <;> try simp only [Option.some.injEq, reduceCtorEq] at ht
      rename_i he
      subst ht
      simp only [Ins.ev] at h
      split at h
      · simp at h
      · rename_i v0 hns
        split at h <;> try simp only [Option.bind_eq_some_iff, Option.map_eq_some_iff, Prod.mk.injEq, reduceCtorEq] at h
        rename_i n hn
        obtain ⟨cs, hcs, s, hs, rfl, rfl⟩ := h
        obtain ⟨v', h1, h2⟩ := strOf_sound (P := P) hK hxv hns hn hcs hs hu he hd
        exact Done.pure hK ⟨v', by simp only [execOp]; exact wrapV h1, h2⟩
    · simp at ht
  case sliceToArrayPointer t x =>
    simp only [Option.bind_eq_some_iff] at ht; obtain ⟨x', hx, ht⟩ := ht
    have hxv := arg_sound hρ hx
    split at ht <;> try simp only [Option.map_eq_some_iff, reduceCtorEq] at ht
    rename_i n e hu
    obtain ⟨sh, hsh, rfl⟩ := ht
    simp only [Ins.ev] at h
    have key : ∀ ad len c, a.eval x = .slice ad len c → n ≤ len → (execOp a.eval ⟨dst, .sliceToArrayPointer t x, ty, pos, after, guard⟩).run P K.w = .ok (.value (.pointer ad)) K.w := by
      intro ad len c e1 hle
      simp only [execOp, e1]
      refine wrapV ?_
      simp [Instr.arrayAt, run_underlying hu, show ¬ (len < n) by omega]
    split at h
    · rename_i j off len cap sz heq
      split at h <;> try simp only [Option.some.injEq, Prod.mk.injEq, reduceCtorEq] at h
      rename_i hle
      obtain ⟨rfl, rfl⟩ := h
      rw [heq] at hxv
      generalize e1 : a.eval x = q at hxv
      cases hxv with
      | sl hb hpa hl hcap hrm => exact Done.pure hK ⟨_, key _ _ _ e1 hle, .ptr hb hpa⟩
    · rename_i f cs len cap heq
      split at h <;> try simp only [Option.some.injEq, Prod.mk.injEq, reduceCtorEq] at h
      rename_i hle
      obtain ⟨rfl, rfl⟩ := h
      rw [heq] at hxv
      generalize e1 : a.eval x = q at hxv
      have hne : cs ≠ [] := by rintro rfl; simp at hle; omega
      cases hxv with
      | isl g hpos hcell hnr hc hv hl hcap =>
        obtain ⟨p1, p2, p3⟩ := hpos hne
        exact Done.pure hK ⟨_, key _ _ _ e1 hle.1, .iptr (off := 0) g p1 p2 p3 hcell hnr hc hv⟩
      | islE => exact absurd rfl hne
      | islNil => exact absurd rfl hne
    · simp at h
  case makeInterface t x =>
    simp only [Option.bind_eq_some_iff] at ht; obtain ⟨x', hx, ht⟩ := ht
    have hxv := arg_sound hρ hx
    split at ht <;> try simp only [Option.some.injEq, reduceCtorEq] at ht
    subst ht
    rename_i d hd1 hd2
    simp only [Ins.ev, Option.some.injEq, Prod.mk.injEq] at h; obtain ⟨rfl, rfl⟩ := h
    cases hu : P.underlying t with
    | none => exact absurd hu hd2
    | some dd =>
      refine Done.pure hK ⟨.iface t (a.eval x), ?_, .iface hxv⟩
      simp only [execOp]
      refine wrapV ?_
      simp only [Instr.makeInterface, Sem.run_bind, run_underlying hu, Result.andThen_ok]
      cases dd <;> first | rfl | exact absurd hu (hd1 _)
  case makeFunc fn first capt =>
    simp only [Option.bind_eq_some_iff, Option.map_eq_some_iff] at ht; obtain ⟨f', hf, c', hc', rfl⟩ := ht
    simp only [Ins.ev, Option.some.injEq, Prod.mk.injEq] at h; obtain ⟨rfl, rfl⟩ := h
    have h1 := args_sound hρ hf
    have h2 := args_sound hρ hc'
    refine Done.pure hK ⟨.func fn (first.map a.eval) (capt.map a.eval), by simp [execOp, Instr.makeFunc], ?_⟩
    exact .func _ _ (by simpa using h1.1) (by simpa using h2.1) (fun j hj => by simpa using h1.2 j hj) (fun j hj => by simpa using h2.2 j hj)
  case makeSlice t l c =>
    simp only [Option.bind_eq_some_iff] at ht; obtain ⟨l', hl, c', hc', ht⟩ := ht
    split at ht
    · rename_i e hu
      split at ht
      · rename_i inf z hi hz
        split at ht <;> try simp only [Option.some.injEq, reduceCtorEq] at ht
        rename_i hcond
        subst ht
        simp only [Ins.ev] at h
        split at h
        · rename_i ln cp h1 h2
          split at h <;> try simp only [Option.map_eq_some_iff, Prod.mk.injEq, reduceCtorEq] at h
          rename_i hc2
          obtain ⟨⟨j, σ1⟩, hn, rfl, rfl⟩ := h
          have hcm : cp ≤ 9223372036854775807 := by
            have hg : growMax = 2 ^ 48 := rfl
            have := Nat.le_mul_of_pos_right cp hcond.2.1
            omega
          obtain ⟨K', v', q1, q2⟩ := makeSl_sound (P := P) hK hu hi hz hcond.2.2 hcond.1 (arg_sound hρ hl) (arg_sound hρ hc') h1 h2 hc2.1 hc2.2.1 hcm hn
          exact Done.step ⟨K', v', by simp only [execOp]; exact wrapV q1, q2⟩
        · simp at h
      · simp at ht
    · simp at ht
  case slice t x lo hi mx =>
    simp only [Option.bind_eq_some_iff] at ht; obtain ⟨x', hx, lo', hlo, hi', hhi, mx', hmx, ht⟩ := ht
    split at ht
    · simp at ht
    rename_i hmh
    have hmh : (mx'.isSome && hi'.isNone) = false := by cases mx' <;> cases hi' <;> simp at hmh ⊢
    have hxv := arg_sound hρ hx
    split at ht
    · rename_i n e hu
      simp only [Option.map_eq_some_iff] at ht; obtain ⟨sh, hsh, rfl⟩ := ht
      simp only [Ins.ev] at h
      obtain ⟨hb, rfl⟩ := ret1_some h
      obtain ⟨v', h1, h2⟩ := sliceArr_sound (P := P) hK hρ hxv hlo hhi hmx hmh hu (agg := sh.1) (sz := sh.2) hsh hb
      exact Done.pure hK ⟨v', by simp only [execOp]; exact wrapV h1, h2⟩
    · rename_i hu
      split at ht <;> try simp only [Option.some.injEq, reduceCtorEq] at ht
      rename_i hmn
      subst ht
      have hmn : mx' = none := by simpa using hmn
      subst hmn
      have hmx0 : mx = none := by
        rcases trOpt_some hmx with ⟨h1, _⟩ | ⟨_, _, _, h2, _⟩
        · exact h1
        · simp at h2
      subst hmx0
      simp only [Ins.ev] at h
      split at h <;> try simp only [reduceCtorEq] at h
      rename_i s heq
      obtain ⟨hb, rfl⟩ := ret1_some h
      rw [heq] at hxv
      have e : a.eval x = .string ⟨s.toArray⟩ := by generalize a.eval x = q at hxv; cases hxv; rfl
      obtain ⟨v', h1, h2⟩ := sliceStr_sound (P := P) hρ hlo hhi hu hb
      exact Done.pure hK ⟨v', by simp only [execOp, e]; exact wrapV h1, h2⟩
    · rename_i e hu
      simp only [Option.map_eq_some_iff] at ht; obtain ⟨sh, hsh, rfl⟩ := ht
      simp only [Ins.ev] at h
      obtain ⟨hb, rfl⟩ := ret1_some h
      obtain ⟨v', h1, h2⟩ := sliceSl_sound (P := P) hρ hxv hlo hhi hmx hmh hu (agg := sh.1) (sz := sh.2) hsh hb
      exact Done.pure hK ⟨v', by simp only [execOp]; exact wrapV h1, h2⟩
    · simp at ht
  case fieldAddr s x f =>
    simp only [Option.bind_eq_some_iff] at ht; obtain ⟨x', hx, ht⟩ := ht
    split at ht <;> try simp only [Option.bind_eq_some_iff, reduceCtorEq] at ht
    rename_i fields hu
    obtain ⟨fd, hf, sh, hsh, ht⟩ := ht
    split at ht <;> try simp only [Option.some.injEq, reduceCtorEq] at ht
    rename_i h0
    subst ht
    simp only [Ins.ev] at h
    obtain ⟨h', rfl⟩ := ret1_some h
    obtain ⟨v', h1, h2⟩ := faddr_sound (P := P) (arg_sound hρ hx) hu hf hsh h0 h'
    exact Done.pure hK ⟨v', by simp only [execOp]; exact wrapV h1, h2⟩
  case field s x f =>
    simp only [Option.bind_eq_some_iff] at ht; obtain ⟨x', hx, ht⟩ := ht
    split at ht <;> try simp only [Option.bind_eq_some_iff, Option.map_eq_some_iff, reduceCtorEq] at ht
    rename_i fields hu
    obtain ⟨fd, hf, sh, hsh, rfl⟩ := ht
    simp only [Ins.ev] at h
    split at h <;> try simp only [reduceCtorEq] at h
    rename_i cs heq
    obtain ⟨hb, rfl⟩ := ret1_some h
    obtain ⟨v', h1, h2⟩ := fld_sound (P := P) (arg_sound hρ hx) hu hf hsh heq hb
    exact Done.pure hK ⟨v', by simp only [execOp]; exact wrapV h1, h2⟩
  case indexAddr t x ix =>
    simp only [Option.bind_eq_some_iff] at ht; obtain ⟨x', hx, i', hi, ht⟩ := ht
    split at ht <;> try simp only [Option.map_eq_some_iff, reduceCtorEq] at ht
    · rename_i n e hu
      obtain ⟨sh, hsh, rfl⟩ := ht
      simp only [Ins.ev] at h
      split at h
      · rename_i k hk
        split at h
        · rename_i hkn
          obtain ⟨h', rfl⟩ := ret1_some h
          obtain ⟨v', h1, h2⟩ := iaArr_sound (P := P) (arg_sound hρ hx) (arg_sound hρ hi) hk hu hsh hkn h'
          exact Done.pure hK ⟨v', by simp only [execOp]; exact wrapV h1, h2⟩
        · simp at h
      · simp at h
    · rename_i e hu
      obtain ⟨sh, hsh, rfl⟩ := ht
      simp only [Ins.ev] at h
      split at h
      · rename_i k hk
        obtain ⟨h', rfl⟩ := ret1_some h
        obtain ⟨v', h1, h2⟩ := iaSl_sound (P := P) (arg_sound hρ hx) (arg_sound hρ hi) hk hu hsh h'
        exact Done.pure hK ⟨v', by simp only [execOp]; exact wrapV h1, h2⟩
      · simp at h
  case index t x ix =>
    simp only [Option.bind_eq_some_iff] at ht; obtain ⟨x', hx, i', hi, ht⟩ := ht
    have hxv := arg_sound hρ hx
    split at ht <;> try simp only [Option.map_eq_some_iff, Option.some.injEq, reduceCtorEq] at ht
    · rename_i n e hu
      obtain ⟨sh, hsh, rfl⟩ := ht
      simp only [Ins.ev] at h
      split at h <;> try simp only [reduceCtorEq] at h
      rename_i k cs hk heq
      split at h <;> try simp only [reduceCtorEq] at h
      rename_i hkn
      obtain ⟨hb, rfl⟩ := ret1_some h
      rw [heq] at hxv
      obtain ⟨v', h1, h2⟩ := ixArr_sound (P := P) hxv (arg_sound hρ hi) hk hu hsh hkn hb
      exact Done.pure hK ⟨v', by simp only [execOp]; exact wrapV h1, h2⟩
    · rename_i hu
      subst ht
      simp only [Ins.ev] at h
      split at h <;> try simp only [Option.map_eq_some_iff, Prod.mk.injEq, reduceCtorEq] at h
      rename_i k s hk heq
      obtain ⟨b, hb, rfl, rfl⟩ := h
      rw [heq] at hxv
      have e : a.eval x = .string ⟨s.toArray⟩ := by generalize a.eval x = q at hxv; cases hxv; rfl
      obtain ⟨v', h1, h2⟩ := ixStr_sound (P := P) (arg_sound hρ hi) hk hu hb
      exact Done.pure hK ⟨v', by simp only [execOp, e]; exact wrapV h1, h2⟩
  case extract x ix =>
    simp only [Option.map_eq_some_iff] at ht; obtain ⟨x', hx, rfl⟩ := ht
    have hxv := arg_sound hρ hx
    simp only [Ins.ev] at h
    split at h <;> try simp only [Option.map_eq_some_iff, Prod.mk.injEq, reduceCtorEq] at h
    rename_i vs heq
    obtain ⟨y, hy, rfl, rfl⟩ := h
    rw [heq] at hxv
    generalize e1 : a.eval x = q at hxv
    cases hxv with
    | tup g h1 hv =>
      obtain ⟨hlt, rfl⟩ := List.getElem?_eq_some_iff.1 hy
      have hlt' : ix < g.size := by omega
      have := hv ix hlt
      rw [Array.getElem?_eq_getElem hlt'] at this
      refine Done.pure hK ⟨g[ix], ?_, this⟩
      simp only [execOp, e1]
      exact wrapV (by simp [Instr.extract, hlt'])
  case typeAssert x xt t ok =>
    simp only [Option.bind_eq_some_iff] at ht; obtain ⟨x', hx, ht⟩ := ht
    have hxv := arg_sound hρ hx
    split at ht <;> try simp only [Option.map_eq_some_iff, reduceCtorEq] at ht
    rename_i dd hd1 hd2
    obtain ⟨z, hz, rfl⟩ := ht
    obtain ⟨zv, hzv, hzr⟩ := zero_sound hz K
    cases hu : P.underlying t with
    | none => exact absurd hu hd2
    | some dd =>
    have hni : ∀ ms, dd ≠ .interface ms := fun ms e => hd1 ms (by rw [hu, e])
    have tup2 : ∀ {q : AV} {qv : Value} {b : Bool}, VR K q qv → VR K (.tup [q, .bool b]) (.tuple #[qv, .bool b]) := by
      intro q qv b hq
      exact .tup _ rfl fun j hj => by
        match j, hj with
        | 0, _ => exact hq
        | 1, _ => exact .bool b
    simp only [Ins.ev] at h
    split at h
    · rename_i u q heq
      rw [heq] at hxv
      generalize e1 : a.eval x = xv at hxv
      cases hxv with
      | @iface _ _ qv hq =>
        split at h
        · rename_i hut; subst hut
          simp only [Option.some.injEq, Prod.mk.injEq] at h; obtain ⟨rfl, rfl⟩ := h
          refine Done.pure hK ⟨if ok then .tuple #[qv, .bool true] else qv, ?_, by cases ok; exact hq; exact tup2 hq⟩
          simp only [execOp, e1]
          refine wrapV ?_
          simp only [Instr.typeAssert, Sem.run_bind, run_underlying hu, Result.andThen_ok]
          cases dd <;> first | exact absurd rfl (hni _) | simp
        · rename_i hut
          split at h <;> try simp only [Option.some.injEq, Prod.mk.injEq, reduceCtorEq] at h
          rename_i hok
          obtain ⟨rfl, rfl⟩ := h
          refine Done.pure hK ⟨.tuple #[zv, .bool false], ?_, tup2 hzv⟩
          simp only [execOp, e1]
          refine wrapV ?_
          simp only [Instr.typeAssert, Sem.run_bind, run_underlying hu, Result.andThen_ok]
          cases dd <;> first | exact absurd rfl (hni _) | simp [hut, hok, hzr]
    · rename_i heq
      rw [heq] at hxv
      generalize e1 : a.eval x = xv at hxv
      cases hxv
      split at h <;> try simp only [Option.some.injEq, Prod.mk.injEq, reduceCtorEq] at h
      rename_i hok
      obtain ⟨rfl, rfl⟩ := h
      refine Done.pure hK ⟨.tuple #[zv, .bool false], ?_, tup2 hzv⟩
      simp only [execOp, e1]
      refine wrapV ?_
      simp only [Instr.typeAssert, Sem.run_bind, run_underlying hu, Result.andThen_ok]
      cases dd <;> first | exact absurd rfl (hni _) | simp [hok, hzr]
    · simp at h
  case makeMap t r =>
    cases r <;> simp at ht
    subst ht; simp [Ins.isCall] at hc
  case lookup t m k ok =>
    simp only [Option.bind_eq_some_iff] at ht; obtain ⟨_, _, _, _, ht⟩ := ht
    split at ht <;> try simp only [Option.bind_eq_some_iff, Option.map_eq_some_iff, reduceCtorEq] at ht
    obtain ⟨_, _, _, _, rfl⟩ := ht
    simp [Ins.isCall] at hc
  case mapUpdate t m k x =>
    simp only [Option.bind_eq_some_iff] at ht; obtain ⟨_, _, _, _, _, _, ht⟩ := ht
    split at ht <;> try simp only [Option.map_eq_some_iff, reduceCtorEq] at ht
    obtain ⟨_, _, rfl⟩ := ht
    simp [Ins.isCall] at hc
  case insert t m k x =>
    simp only [Option.bind_eq_some_iff] at ht; obtain ⟨_, _, _, _, _, _, ht⟩ := ht
    split at ht <;> try simp only [Option.map_eq_some_iff, reduceCtorEq] at ht
    obtain ⟨_, _, rfl⟩ := ht
    simp [Ins.isCall] at hc
  case call c =>
    obtain ⟨callee, args, argTypes⟩ := c
    cases callee with
    | value f =>
      cases f <;> simp only [Option.bind_eq_some_iff, Option.map_eq_some_iff] at ht
      case func f =>
        obtain ⟨as, has, rfl⟩ := ht
        rcases callIns_cases P f as with e | ⟨fn, x, y, hf, hb, rfl, hnx, hcs⟩
        · rw [e] at hc; simp [Ins.isCall] at hc
        · have has' := args_sound hρ has
          obtain ⟨vx, vy, hvs⟩ : ∃ vx vy, args.toList.map a.eval = [vx, vy] := by
            have hl := has'.1
            match hq : args.toList.map a.eval with
            | [u, w] => exact ⟨u, w, rfl⟩
            | [] | [_] | _ :: _ :: _ :: _ => rw [hq] at hl; simp at hl
          rw [hvs] at has'
          have hvx : VR K (x.get ρ) vx := has'.2 0 (by simp)
          have hvy : VR K (y.get ρ) vy := has'.2 1 (by simp)
          have e2 : args.map a.eval = #[vx, vy] := by apply Array.ext'; simpa using hvs
          have fin : ∀ (g : Array Value → Sem Value) (u : Value), fn.name ≠ "runtime.NumGoroutine" → Extern.find fn = some g → (g #[vx, vy]).run P K.w = .ok u K.w →
              (execOp a.eval ⟨dst, .call ⟨.value (.func f), args, argTypes⟩, ty, pos, after, guard⟩).run P K.w = .ok (.value u) K.w := by
            intro g u hne hg hrun
            have hcall := run_callFunc_extern (P := P) (f := f) hf (by simpa using hne) (by rw [hb]; rfl) hnx hg #[vx, vy] K.w
            rw [hrun] at hcall
            simp only [Result.andThen_ok] at hcall
            simp [execOp, resolve, invoke, Act.eval, Deferred.ofValue]
            first | (simp only [e2]; simpa using hcall) | (rw [show Array.map a.eval args = #[vx, vy] from e2]; simpa using hcall)
          rcases hcs with ⟨hnm, e⟩ | ⟨hnm, e⟩
          · rw [e] at h
            simp only [Ins.ev] at h
            split at h <;> try simp only [Option.some.injEq, Prod.mk.injEq, reduceCtorEq] at h
            rename_i s t hs ht
            obtain ⟨rfl, rfl⟩ := h
            exact Done.pure hK ⟨.int .i64 (Lib.compareBytes s t), fin _ _ (by rw [hnm]; decide) (find_compare hnm) (cmpB_sound (P := P) hK hvx hvy hs ht), .int _ _⟩
          · rw [e] at h
            simp only [Ins.ev] at h
            split at h <;> try simp only [Option.some.injEq, Prod.mk.injEq, reduceCtorEq] at h
            rename_i s n hs hn
            obtain ⟨rfl, rfl⟩ := h
            rw [hn] at hvy
            cases hvy
            exact Done.pure hK ⟨.int .i64 (Lib.indexByte s n.toNat.toUInt8), fin _ _ (by rcases hnm with h | h <;> rw [h] <;> decide) (find_index hnm) (idxB_sound (P := P) hK hvx hs n), .int _ _⟩
      all_goals (obtain ⟨_, _, _, _, rfl⟩ := ht; simp [Ins.isCall] at hc)
    | invoke f nm =>
      simp only [Option.bind_eq_some_iff, Option.map_eq_some_iff] at ht
      obtain ⟨_, _, _, _, rfl⟩ := ht; simp [Ins.isCall] at hc
    | builtin b =>
      simp only at ht
      have hrun := fun w => run_builtin (P := P) (ρ := a.eval) (o := ⟨dst, .call ⟨.builtin b, args, argTypes⟩, ty, pos, after, guard⟩) (b := b) (args := args) (argTypes := argTypes) rfl w
      rw [hrun]
      simp only
      clear hrun
      obtain ⟨args⟩ := args
      obtain ⟨argTypes⟩ := argTypes
      simp only at ht
      unfold trBuiltin at ht
      split at ht
      · -- len
        rename_i t x e2
        subst e2
        simp only [Option.bind_eq_some_iff] at ht
        obtain ⟨x', hx, ht⟩ := ht
        have hxv := arg_sound hρ hx
        have goal : ∀ n : Nat, (Builtin.len_ #[t] ty #[a.eval x]).run P K.w = .ok (.int .i64 n) K.w → v = .int .i64 n → σ' = σ →
            Done K σ' v ((builtin .len #[t] ty (#[x].map fun | .const _ => true | _ => false) (#[x].map a.eval)).run P K.w) := by
          intro n h1 h2 h3
          subst h2; subst h3
          exact Done.pure hK ⟨_, wrapV (by simpa using h1), .int _ _⟩
        split at ht <;> try simp only [Option.some.injEq, reduceCtorEq] at ht
        · rename_i hu
          subst ht
          simp only [Ins.ev, Option.map_eq_some_iff, Prod.mk.injEq] at h
          obtain ⟨n, hn, rfl, rfl⟩ := h
          refine goal n ?_ rfl rfl
          generalize a.eval x = xv at hxv
          generalize x'.get ρ = xa at hxv hn
          cases hxv <;> simp only [lenIn, Option.some.injEq, reduceCtorEq] at hn
          subst hn
          have hsz : ∀ s : List UInt8, (ByteArray.mk s.toArray).size = s.length := fun s => by simp [ByteArray.size]
          simp [Builtin.len_, run_underlying hu, goInt, hsz, -ByteArray.size_data]
        · rename_i e hu
          subst ht
          simp only [Ins.ev, Option.map_eq_some_iff, Prod.mk.injEq] at h
          obtain ⟨n, hn, rfl, rfl⟩ := h
          refine goal n ?_ rfl rfl
          generalize a.eval x = xv at hxv
          generalize x'.get ρ = xa at hxv hn
          cases hxv <;> simp only [lenIn, Option.some.injEq, reduceCtorEq] at hn
          all_goals
            subst hn
            simp [Builtin.len_, run_underlying hu, goInt]
        · rename_i k e hu
          subst ht
          simp only [Ins.ev, Option.map_eq_some_iff, Prod.mk.injEq] at h
          obtain ⟨n, hn, rfl, rfl⟩ := h
          refine goal n ?_ rfl rfl
          generalize a.eval x = xv at hxv
          generalize x'.get ρ = xa at hxv hn
          cases hxv <;> simp only [lenIn, Option.some.injEq, reduceCtorEq] at hn
          case nilm => subst hn; simp [Builtin.len_, run_underlying hu, goInt]
          case map i r hb hpr =>
            split at hn <;> try simp only [Option.some.injEq, reduceCtorEq] at hn
            rename_i ks vs hh
            subst hn
            obtain ⟨b, d, hm, es, clk, h1, h2, h3, _⟩ := hK.blk _ _ hh
            have := hpr b d hm; subst this
            simp [Builtin.len_, run_underlying hu, goInt, getObj, Sem.run, h1, h2]
          case imap h0 h1 h2 h3 h4 h5 h6 h7 h8 =>
            subst hn
            simp [Builtin.len_, run_underlying hu, goInt, getObj, Sem.run, h4, h5]
        · rename_i n e hu
          subst ht
          simp only [Ins.ev, Option.some.injEq, Prod.mk.injEq] at h
          exact goal n (by simp [Builtin.len_, run_underlying hu, goInt]) h.1.symm h.2.symm
      · -- cap
        rename_i t x e2
        subst e2
        simp only [Option.bind_eq_some_iff] at ht
        obtain ⟨x', hx, ht⟩ := ht
        have hxv := arg_sound hρ hx
        split at ht <;> try simp only [Option.some.injEq, reduceCtorEq] at ht
        rename_i e hu
        subst ht
        simp only [Ins.ev] at h
        have goal : ∀ (p : Option Addr) (l n : Nat), a.eval x = .slice p l n → v = .int .i64 n → σ' = σ →
            Done K σ' v ((builtin .cap #[t] ty (#[x].map fun | .const _ => true | _ => false) (#[x].map a.eval)).run P K.w) := by
          intro p l n h1 h2 h3
          subst h2; subst h3
          refine Done.pure hK ⟨.int .i64 n, wrapV ?_, .int _ _⟩
          simp [h1, Builtin.cap_, run_underlying hu, goInt]
        generalize e1 : a.eval x = xv at hxv goal
        split at h <;> try simp only [Option.some.injEq, Prod.mk.injEq, reduceCtorEq] at h
        · rename_i heq; rw [heq] at hxv; cases hxv; exact goal _ _ 0 rfl h.1.symm h.2.symm
        · rename_i heq; rw [heq] at hxv
          cases hxv with
          | sl hb hpa hl hcap hrm => simp only [CapS] at hcap; subst hcap; exact goal _ _ _ rfl h.1.symm h.2.symm
        · rename_i heq; rw [heq] at hxv
          cases hxv with
          | isl g h1 h2 h3 h4 h5 h6 hcap => simp only [CapR] at hcap; subst hcap; exact goal _ _ _ rfl h.1.symm h.2.symm
          | islE hcap => simp only [CapR] at hcap; subst hcap; exact goal _ _ _ rfl h.1.symm h.2.symm
          | islNil hcap => simp only [CapR] at hcap; subst hcap; exact goal _ _ _ rfl h.1.symm h.2.symm
      · -- append
        rename_i t u s x e2
        subst e2
        simp only [Option.bind_eq_some_iff] at ht
        obtain ⟨s', hs, x', hx, ht⟩ := ht
        have main : ∀ e inf z dx, P.underlying t = some (.slice e) → P.info? e = some inf → 0 < inf.bytes → zerosOf P e = some z → z.length = inf.size → P.underlying u = some dx → (∀ k, dx ≠ .int k) →
            i = .append inf.size inf.bytes s' x' → Done K σ' v ((builtin .append #[t, u] ty (#[s, x].map fun | .const _ => true | _ => false) (#[s, x].map a.eval)).run P K.w) := by
          intro e inf z dx hu hi hby hz hzl hux hxi e1
          subst e1
          simp only [Ins.ev] at h
          split at h <;> try simp only [Option.bind_eq_some_iff, reduceCtorEq] at h
          rename_i n hn
          obtain ⟨xs, hxs, h⟩ := h
          obtain ⟨K', v', q1, q2⟩ := append_sound (P := P) (ty := ty) hK (arg_sound hρ hs) (arg_sound hρ hx) hu hi hby hz hzl hux hxi hn hxs h
          exact Done.step ⟨K', v', wrapV (by simpa using q1), q2⟩
        split at ht
        · rename_i e e' hu hux
          split at ht
          · rename_i inf inf' hi hi'
            split at ht <;> try simp only [Option.some.injEq, reduceCtorEq] at ht
            rename_i hc
            obtain ⟨_, hby, hz⟩ := hc
            simp only [Option.map_eq_some_iff] at hz
            obtain ⟨z, hz, hzl⟩ := hz
            exact main e inf z _ hu hi hby hz hzl hux (by simp) ht.symm
          · simp at ht
        · rename_i e k hu hux
          split at ht
          · rename_i inf z hi hz
            split at ht <;> try simp only [Option.some.injEq, reduceCtorEq] at ht
            rename_i hc
            obtain ⟨hby, hzl⟩ := hc
            subst ht
            simp only [Ins.ev] at h
            split at h <;> try simp only [reduceCtorEq] at h
            rename_i n hn
            split at h <;> try simp only [reduceCtorEq] at h
            rename_i hc2
            obtain ⟨K', v', q1, q2⟩ := appendZ_sound (P := P) (ty := ty) hK (arg_sound hρ hs) (arg_sound hρ hx) hu hi hby hz hzl hux hn hc2.1 hc2.2.2 h
            exact Done.step ⟨K', v', wrapV (by simpa using q1), q2⟩
          · simp at ht
        · rename_i e hu hux
          split at ht
          · rename_i inf hi
            split at ht <;> try simp only [Option.some.injEq, reduceCtorEq] at ht
            rename_i hc
            obtain ⟨_, hby, hz⟩ := hc
            simp only [Option.map_eq_some_iff] at hz
            obtain ⟨z, hz, hzl⟩ := hz
            exact main e inf z _ hu hi hby hz hzl hux (by simp) ht.symm
          · simp at ht
        · simp at ht
      · -- copy
        rename_i t u d s e2
        subst e2
        simp only [Option.bind_eq_some_iff] at ht
        obtain ⟨d', hd, s', hs, ht⟩ := ht
        have main : ∀ e sh, P.underlying t = some (.slice e) → shapeOf P e = some sh → i = .copy sh.2 d' s' →
            Done K σ' v ((builtin .copy #[t, u] ty (#[d, s].map fun | .const _ => true | _ => false) (#[d, s].map a.eval)).run P K.w) := by
          intro e sh hu hsh e1
          subst e1
          simp only [Ins.ev] at h
          split at h <;> try simp only [Option.bind_eq_some_iff, reduceCtorEq] at h
          rename_i dl sl hdl hsl
          obtain ⟨xs, hxs, h⟩ := h
          obtain ⟨K', v', q1, q2⟩ := copy_sound (P := P) (ty := ty) (sT := u) hK (arg_sound hρ hd) (arg_sound hρ hs) hu (agg := sh.1) (sz := sh.2) hsh hdl hsl hxs h
          exact Done.step ⟨K', v', wrapV (by simpa using q1), q2⟩
        split at ht <;> try simp only [Option.map_eq_some_iff, Option.bind_eq_some_iff, reduceCtorEq] at ht
        · rename_i e e' hu hux
          obtain ⟨sh, hsh, rfl⟩ := ht
          exact main e sh hu hsh rfl
        · rename_i e hu hux
          obtain ⟨sh, hsh, ht⟩ := ht
          split at ht <;> try simp only [Option.some.injEq, reduceCtorEq] at ht
          rename_i h1
          exact main e sh hu hsh (by rw [h1]; exact ht.symm)
      · -- max
        rename_i argl b0 x0 argl2
        simp only [Option.map_eq_some_iff] at ht
        obtain ⟨as, has, rfl⟩ := ht
        have hvs := args_sound hρ has
        simp only [Ins.ev] at h
        split at h <;> try simp only [reduceCtorEq] at h
        rename_i y ys
        obtain ⟨hb, rfl⟩ := ret1_some h
        cases argl with
        | nil => simp at has
        | cons x xs =>
          have hx : VR K (y.get ρ) (a.eval x) := hvs.2 0 (by simp)
          have hxs : VRs K (ys.map (Arg.get ρ)) (xs.map a.eval) := by simpa using hvs.drop 1
          obtain ⟨v', q1, q2⟩ := minmax_sound (P := P) hx hxs hb
          exact Done.pure hK ⟨v', wrapV (by simpa [Builtin.max_] using q1), q2⟩
      · -- min
        rename_i argl b0 x0 argl2
        simp only [Option.map_eq_some_iff] at ht
        obtain ⟨as, has, rfl⟩ := ht
        have hvs := args_sound hρ has
        simp only [Ins.ev] at h
        split at h <;> try simp only [reduceCtorEq] at h
        rename_i y ys
        obtain ⟨hb, rfl⟩ := ret1_some h
        cases argl with
        | nil => simp at has
        | cons x xs =>
          have hx : VR K (y.get ρ) (a.eval x) := hvs.2 0 (by simp)
          have hxs : VRs K (ys.map (Arg.get ρ)) (xs.map a.eval) := by simpa using hvs.drop 1
          obtain ⟨v', q1, q2⟩ := minmax_sound (P := P) hx hxs hb
          exact Done.pure hK ⟨v', wrapV (by simpa [Builtin.min_] using q1), q2⟩
      · -- delete
        simp only [Option.bind_eq_some_iff] at ht
        obtain ⟨_, _, _, _, ht⟩ := ht
        split at ht <;> try simp only [Option.map_eq_some_iff, reduceCtorEq] at ht
        obtain ⟨_, _, rfl⟩ := ht
        simp [Ins.isCall] at hc
      · simp at ht

end
end Go.Vm
