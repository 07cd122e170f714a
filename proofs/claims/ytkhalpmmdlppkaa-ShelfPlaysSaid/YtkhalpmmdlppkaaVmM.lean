/-
  THE GENERIC LAYER 'Vm', part M: one operation in its region, calls, regions in the order of the text.
-/
import Derived.Test.YtkhalpmmdlppkaaVmMa
import Derived.RangeFuncRecord
import Derived.RangeFuncIn
import Derived.OrdersIn
namespace Go.Vm

def realCall : Go.Op → Bool
  | .call c => match c.callee with
    | .builtin .delete => true
    | .builtin _ => false
    | _ => true
  | .makeMap .. | .lookup .. | .mapUpdate .. | .insert .. => true
  | _ => false

/-- What is taken. -/
def trTake (P : Program) (nt : Nat) (op : Go.Op) : Option Ins := (trIns P nt op).bind fun i => if i.isCall && !realCall op then none else some i

theorem trTake_some {P : Program} {nt : Nat} {op : Go.Op} {i : Ins} (h : trTake P nt op = some i) : trIns P nt op = some i ∧ (i.isCall = true → realCall op = true) := by
  unfold trTake at h
  simp only [Option.bind_eq_some_iff] at h
  obtain ⟨j, hj, h⟩ := h
  split at h
  · simp at h
  · rename_i hc
    simp only [Option.some.injEq] at h
    subst h
    refine ⟨hj, fun hi => ?_⟩
    simpa [hi] using hc

def trOp (P : Program) (nt : Nat) (ops : Array Oper) (o : Oper) : Op :=
  match o.guard with
  | none => ⟨o.dst, (trTake P nt o.op).getD .no, none⟩
  | some (j, b) => match (ops[j]?).bind (·.dst) with
    | some d => if d < nt then ⟨o.dst, (trTake P nt o.op).getD .no, some (d, b)⟩ else ⟨o.dst, .no, none⟩
    | none => ⟨o.dst, .no, none⟩

/-- What is behind a call. -/
def Came (K : Ctx) (σ' : St) (r : AV) : Ending → World → Prop := fun e w' => ∃ v K', e = .returned v ∧ K'.w = w' ∧ Step K K' ∧ Rel K' σ' ∧ VR K' r v

structure Enters (P : Program) (f : FuncId) : Prop where
  is : ∃ fn, P.funcs[f]? = some fn ∧ fn.name ≠ "runtime.NumGoroutine" ∧ fn.body ≠ none

/-- The fence: all is let in; of a function's frame, or of a round's. -/
abbrev FW (ro : Option Nat) : Fence := { Fence.wide with round := ro }
theorem callsFW {P : Program} {f : FuncId} {args : Array Value} {w : World} {R : Ending → World → Prop} (h : Calls P f args w R) (ro : Option Nat) : CallsIn (FW ro) 0 P f args w R := by
  have h1 : CallsIn Fence.wide 0 P f args w R := callsIn_wide.2 h
  exact ⟨trivial, h1.2⟩

/-- A loop's record, and what a round of it comes to. -/
def Rounds (P : Program) (l : Nat) (vargs : List Value) (w : World) (R : Ending → World → Prop) : Prop :=
  ∃ rc : Loop, w.heap[l]? = some (.loop rc) ∧ vargs.toArray.size = rc.params.size ∧
    ∀ ro, RoundIn (FW ro) 0 P l rc.fn ((rc.params.zip vargs.toArray).foldl (fun tmps (t, a) => tmps.setIfInBounds t a) rc.tmps) rc.assign rc.body w R

structure SoundT (P : Program) (tr : Nat → Code → C) (E : CallH) : Prop where
  fn : ∀ f args σ r σ', E f args σ = some (r, σ') → Enters P f ∧ ∀ K vargs, K.tr = tr → Rel K σ → VRs K args vargs → Calls P f vargs.toArray K.w (Came K σ' r)
  yl : ∀ i args σ r σ', E.yl i args σ = some (r, σ') → ∀ K vargs l, K.tr = tr → Rel K σ → VRs K args vargs → K.bd i → (∀ b d, K.mu i = some (b, d) → l = b) → Rounds P l vargs K.w (Came K σ' r)

section
variable {P : Program} {K : Ctx} {tr : Nat → Code → C} {ro : Option Nat}

theorem run_callFunc {f : FuncId} (h : Enters P f) (args : Array Value) (w : World) : (callFunc f args).run P w = .ok (.enter f args) w := by
  obtain ⟨fn, h1, h2, h3⟩ := h.is
  simp [callFunc, h1, h2, h3]

theorem tbl_sound {σ : St} (hK : Rel K σ) {name : String} {t : TypeId} {d : Option (Bool × Nat)} {f : FuncId} (h : (tblOf P name).lookup t = some (d, f)) {v r : AV} {vv : Value} (hv : VR K v vv) (hrc : recv σ d v = some r) (args : Array Value) (he : Enters P f) :
    ∃ vr, VR K r vr ∧ (callMethod (.iface t vv) name args).run P K.w = .ok (.enter f (#[vr] ++ args)) K.w := by
  have hm : (t, d, f) ∈ tblOf P name := by
    have key : ∀ l : List (TypeId × Option (Bool × Nat) × FuncId), l.lookup t = some (d, f) → (t, d, f) ∈ l := by
      intro l
      induction l with
      | nil => simp
      | cons p l ih =>
        intro h
        obtain ⟨k, b⟩ := p
        by_cases e : t = k
        · subst e; simp at h; subst h; simp
        · have : (t == k) = false := by simpa using e
          simp [List.lookup_cons, this] at h
          exact List.mem_cons_of_mem _ (ih h)
    exact key _ h
  simp only [tblOf, List.mem_filterMap, List.mem_range] at hm
  obtain ⟨t', _, hm⟩ := hm
  have hd0 : 0 < Made.depth := by decide
  have hfuel : ∃ k, P.types.size + Made.depth = k + 1 := ⟨P.types.size + Made.depth - 1, by omega⟩
  obtain ⟨k, hk⟩ := hfuel
  split at hm
  · rename_i inf hi
    split at hm
    · rename_i m hfind
      split at hm
      · rename_i hpath
        have hp : m.path.toList = [] := by simpa using hpath
        have hpe : m.path.isEmpty = true := hpath
        have main : ∀ b dd, d = none → m.func = some (f, b) → P.underlying t = some dd → (match dd, b with | .pointer _, true => True | .pointer _, false => False | _, false => True | _, true => False) → t' = t →
            ∃ vr, VR K r vr ∧ (callMethod (.iface t vv) name args).run P K.w = .ok (.enter f (#[vr] ++ args)) K.w := by
          intro b dd hdn hf hu hd e
          subst e; subst hdn
          simp only [recv, Option.some.injEq] at hrc
          subst hrc
          have hmeth : (method (P.types.size + Made.depth) t' vv name).run P K.w = .ok (f, vv) K.w := by
            rw [hk]
            simp only [method, Sem.run_bind, run_typeInfo hi, Result.andThen_ok, hfind, hp, follow, Sem.run_pure, hf]
            cases b
            · cases dd <;> simp at hd <;> simp [receiverAt, run_underlying hu, Place.get]
            · cases dd <;> simp at hd
              simp [receiverAt, run_underlying hu, Place.get]
          refine ⟨vv, hv, ?_⟩
          simp only [callMethod, Sem.run_bind, run_program, Result.andThen_ok, hmeth]
          exact run_callFunc he _ K.w
        split at hm <;> try simp only [Option.some.injEq, Option.map_eq_some_iff, Prod.mk.injEq, reduceCtorEq] at hm
        · rename_i hf hu; obtain ⟨rfl, rfl, rfl⟩ := hm; exact main true _ rfl hf hu trivial rfl
        · rename_i f0 e hf hu
          obtain ⟨sh, hsh, rfl, rfl, rfl⟩ := hm
          simp only [recv] at hrc
          obtain ⟨vr, hl1, hl2⟩ := loadAt_sound (P := P) hK hv hrc (t := e) hsh
          refine ⟨vr, hl2, ?_⟩
          have hptr : ∃ ad, vv = .pointer (some ad) := by
            cases hv <;> simp [loadAt] at hrc <;> exact ⟨_, rfl⟩
          obtain ⟨ad, rfl⟩ := hptr
          simp only [Instr.loadAt, Instr.sureAddr, Sem.run_bind, Sem.run_pure, Result.andThen_ok] at hl1
          have hwrap : ∀ (a b : String) (w : World), (Builtin.ssaWrapNilChk_ #[t'] t' #[.pointer (some ad), strVal a, strVal b]).run P w = .ok (.pointer (some ad)) w := fun _ _ _ => rfl
          have hmeth : (method (P.types.size + Made.depth) t' (.pointer (some ad)) name).run P K.w = .ok (f0, vr) K.w := by
            rw [hk]
            simp only [method, Sem.run_bind, run_typeInfo hi, Result.andThen_ok, hfind, hp, follow, Sem.run_pure, hf, hpe, if_true]
            simp only [receiverAt, Sem.run_bind, run_underlying hu, Result.andThen_ok, Place.get, Sem.run_pure, hwrap, asAddr, hl1]
          simp only [callMethod, Sem.run_bind, run_program, Result.andThen_ok, hmeth]
          exact run_callFunc he _ K.w
        · rename_i dd hnp hf hu
          obtain ⟨rfl, rfl, rfl⟩ := hm
          refine main false dd rfl hf hu ?_ rfl
          cases dd <;> first | trivial | exact absurd rfl (hnp _)
      · simp at hm
    · simp at hm
  · simp at hm

theorem yields_sound {nt : Nat} {ρ : Env} {a : Act} (hρ : EnvR K nt ρ a) {ops : Array Oper} {o : Oper} (hg : (∃ d b j, o.guard = some (j, b) ∧ (ops[j]?).bind (·.dst) = some d ∧ d < nt ∧ (trOp P nt ops o).guard = some (d, b)) ∨ (o.guard = none ∧ (trOp P nt ops o).guard = none)) :
    Region.wanted o (yielded ops a.tmps) = wanted ρ (trOp P nt ops o).guard := by
  rcases hg with ⟨d, b, j, h1, h2, h3, h4⟩ | ⟨h1, h2⟩
  · rw [h4]
    simp only [Region.wanted, h1, wanted, yielded, h2, Option.bind_some]
    have hv := hρ.val d h3
    have hlt : d < a.tmps.size := by rw [hρ.size]; exact h3
    simp only [Array.getD_eq_getD_getElem?, Array.getElem?_eq_getElem hlt, Option.getD_some] at hv ⊢
    generalize a.tmps[d] = q at hv
    generalize ρ d = x at hv
    cases hv <;> first | rfl | (rename_i c; cases c <;> cases b <;> rfl)
  · rw [h2]; simp [Region.wanted, h1, wanted]

theorem trOp_no {nt : Nat} {ops : Array Oper} {o : Oper} {E : CallH} {ρ : Env} {σ : St} {r : Env × St} (h : (trOp P nt ops o).ev E ρ σ = some r) :
    ((∃ d b j, o.guard = some (j, b) ∧ (ops[j]?).bind (·.dst) = some d ∧ d < nt ∧ (trOp P nt ops o).guard = some (d, b)) ∨ (o.guard = none ∧ (trOp P nt ops o).guard = none)) ∧
    (trOp P nt ops o).dst = o.dst ∧ (trOp P nt ops o).ins = (trTake P nt o.op).getD .no := by
  unfold trOp at h ⊢
  cases hg : o.guard with
  | none => simp
  | some p =>
    obtain ⟨j, b⟩ := p
    simp only [hg] at h ⊢
    cases hd : (ops[j]?).bind (·.dst) with
    | none => simp [hd, Op.ev, wanted, Ins.ev] at h
    | some d =>
      simp only [hd] at h ⊢
      by_cases hlt : d < nt
      · refine ⟨.inl ⟨d, b, j, ?_, hd, hlt, ?_⟩, ?_, ?_⟩ <;> simp [hlt]
      · simp [hlt, Op.ev, wanted, Ins.ev] at h

/-- The machine's own step at one operation. -/
theorem upon_sound {E : CallH} (hE : SoundT P tr E) (hKt : K.tr = tr) {σ σ' : St} (hK : Rel K σ) {nt : Nat} {ρ : Env} {a : Act} (hρ : EnvR K nt ρ a) {o : Oper} {i : Ins} (ht' : trTake P nt o.op = some i) {v : AV}
    (h : i.ev E ρ σ = some (v, σ')) {next : Act → World → Prop} {Q : Exit → Act → World → Prop}
    (hn : ∀ K' v', Step K K' → Rel K' σ' → VR K' v v' → next (a.put o.dst v') K'.w) : o.wpIn (FW ro) 0 P a K.w next Q := by
  have hsem : o.semAt (FW ro).round a.eval = execOp a.eval o := Oper.semAt_eq _ _ _ (fun c hc => by
    have := (trTake_some ht').1
    rw [hc] at this
    simp [trIns] at this)
  have undefR : ∀ K', VR K' (.tup []) undef := fun K' => .tup #[] rfl (fun j hj => by simp at hj)
  have call : ∀ f (args : List AV) (vargs : List Value), (execOp a.eval o).run P K.w = .ok (.enter f vargs.toArray) K.w → VRs K args vargs → E f args σ = some (v, σ') → o.wpIn (FW ro) 0 P a K.w next Q := by
    intro f args vargs hr hv he
    obtain ⟨_, hc⟩ := hE.fn f args σ v σ' he
    have := callsFW (hc K vargs hKt hK hv) ro
    refine ⟨fun _ _ => trivial, ?_⟩
    rw [hsem, hr, Oper.uponIn_enter]
    refine ⟨fun h => by simp [Fence.wide] at h, this.mono ?_⟩
    rintro e w' ⟨v', K', rfl, rfl, hs, hr', hvr⟩
    exact hn K' v' hs hr' hvr
  have mapped : Done K σ' v ((execOp a.eval o).run P K.w) → o.wpIn (FW ro) 0 P a K.w next Q := by
    rintro ⟨K', hs, hr, hres⟩
    refine ⟨fun _ _ => trivial, ?_⟩
    rw [hsem]
    rcases hres with ⟨v', h1, h2⟩ | ⟨h1, rfl⟩
    · rw [h1]; exact hn K' v' hs hr h2
    · rw [h1]; exact hn K' undef hs hr (undefR K')
  obtain ⟨ht, hreal⟩ := trTake_some ht'
  by_cases hc : i.isCall = true
  · have hrc := hreal hc
    obtain ⟨dst, op, ty, pos, after, guard⟩ := o
    simp only at ht hrc
    have upd : ∀ t m k x, (Go.Op.mapUpdate t m k x = op ∨ Go.Op.insert t m k x = op) → (trIns P nt op = some i) → Oper.wpIn (FW ro) 0 P ⟨dst, op, ty, pos, after, guard⟩ a K.w next Q := by
      intro t m k x hop ht
      have ht2 : trIns P nt (.mapUpdate t m k x) = some i := by rcases hop with rfl | rfl <;> exact ht
      simp only [trIns, Option.bind_eq_some_iff] at ht2
      obtain ⟨m', hm, k', hk, x', hx, ht2⟩ := ht2
      split at ht2 <;> try simp only [Option.map_eq_some_iff, reduceCtorEq] at ht2
      rename_i kt e hu
      obtain ⟨q, hq, rfl⟩ := ht2
      obtain ⟨K', h1, h2, h3, h4⟩ := mapUpd_sound (P := P) hK (arg_sound hρ hm) (arg_sound hρ hk) (arg_sound hρ hx) hu hq h
      refine mapped ⟨K', h2, h3, .inr ⟨?_, h4⟩⟩
      rcases hop with rfl | rfl <;> simp [execOp, h1]
    have ht0 := ht
    cases op <;> simp only [trIns, reduceCtorEq] at ht
    case makeMap t r =>
      cases r <;> simp at ht
      subst ht
      simp only [Ins.ev, Option.some.injEq, Prod.mk.injEq] at h
      obtain ⟨rfl, rfl⟩ := h
      obtain ⟨K', v', h1, h2⟩ := makeMap_sound (P := P) hK t
      exact mapped (Done.step ⟨K', v', by simp only [execOp]; exact wrapV h1, h2⟩)
    case lookup t m k ok =>
      simp only [Option.bind_eq_some_iff] at ht; obtain ⟨m', hm, k', hk, ht⟩ := ht
      split at ht <;> try simp only [Option.bind_eq_some_iff, Option.map_eq_some_iff, reduceCtorEq] at ht
      rename_i kt e hu
      obtain ⟨q, hq, z, hz, rfl⟩ := ht
      simp only [Ins.ev, Option.bind_eq_some_iff] at h
      obtain ⟨⟨ks, vs⟩, hmo, r, hf, h⟩ := h
      have hr : lookR ok z vs r = some v ∧ σ' = σ := by
        cases r with
        | none => simp only [Option.some.injEq, Prod.mk.injEq] at h; obtain ⟨rfl, rfl⟩ := h; exact ⟨rfl, rfl⟩
        | some j =>
          simp only [Option.map_eq_some_iff, Prod.mk.injEq] at h
          obtain ⟨x, hx, rfl, rfl⟩ := h
          exact ⟨by simp [lookR, hx], rfl⟩
      obtain ⟨hr, rfl⟩ := hr
      obtain ⟨v', h1, h2⟩ := lookup_sound (P := P) hK (arg_sound hρ hm) (arg_sound hρ hk) hu hq hz hmo hf hr
      exact mapped (Done.pure hK ⟨v', by simp only [execOp]; exact wrapV h1, h2⟩)
    case mapUpdate t m k x => exact upd t m k x (.inl rfl) ht0
    case insert t m k x => exact upd t m k x (.inr rfl) ht0
    case call c =>
      obtain ⟨callee, args, argTypes⟩ := c
      cases callee with
      | builtin b =>
        cases b <;> first | (exfalso; simp [realCall] at hrc; done) | skip
        simp only [trBuiltin] at ht
        split at ht <;> try simp only [reduceCtorEq] at ht
        all_goals first | (simp at *; done) | skip
        rename_i t0 t1 m k hb hat hargs
        simp only [Option.bind_eq_some_iff] at ht
        obtain ⟨m', hm, k', hk, ht⟩ := ht
        split at ht <;> try simp only [Option.map_eq_some_iff, reduceCtorEq] at ht
        rename_i kt e hu
        obtain ⟨q, hq, rfl⟩ := ht
        obtain ⟨K', h1, h2, h3, h3'⟩ := delete_sound (P := P) hK (arg_sound hρ hm) (arg_sound hρ hk) (u := t1) (ty := ty) hu hq h
        obtain rfl := h3'
        refine mapped (Done.step ⟨K', .tuple #[], ?_, h2, h3, .tup #[] rfl (fun j hj => by simp at hj)⟩)
        rw [run_builtin rfl]
        refine wrapV ?_
        have e1 : args = #[m, k] := by apply Array.ext'; simpa using hargs
        have e2 : argTypes = #[t0, t1] := by apply Array.ext'; simpa using hat
        subst e1; subst e2
        have e3 : Array.map a.eval #[m, k] = #[a.eval m, a.eval k] := by simp
        rw [e3]
        exact h1
      | invoke x name =>
        simp only [Option.bind_eq_some_iff, Option.map_eq_some_iff] at ht
        obtain ⟨x', hx, as, has, rfl⟩ := ht
        simp only [Ins.ev] at h
        split at h <;> try simp only [reduceCtorEq] at h
        rename_i t q heq
        split at h <;> try simp only [reduceCtorEq] at h
        rename_i d f hf
        simp only [Option.bind_eq_some_iff] at h
        obtain ⟨rc, hrc, h⟩ := h
        have hxv := arg_sound hρ hx
        rw [heq] at hxv
        generalize e1 : a.eval x = xv at hxv
        cases hxv with
        | @iface _ _ qv hq =>
        obtain ⟨he, _⟩ := hE.fn _ _ _ _ _ h
        obtain ⟨vr, hvr, this⟩ := tbl_sound (P := P) hK hf hq hrc (args.map a.eval) he
        refine call f _ (vr :: args.toList.map a.eval) ?_ (VRs.cons hvr (args_sound hρ has)) h
        simp only [execOp, resolve, Sem.run_bind, Sem.run_pure, Result.andThen_ok, invoke, e1]
        simp only [Array.getElem?_append_left, List.size_toArray, List.length_cons, List.length_nil, Nat.zero_add, Nat.zero_lt_one, List.getElem?_toArray, List.getElem?_cons_zero]
        have e2 : (#[Value.iface t qv] ++ args.map a.eval).extract 1 (#[Value.iface t qv] ++ args.map a.eval).size = args.map a.eval := by
          apply Array.ext'
          simp [List.take_of_length_le]
        simp only [e2, this]
        congr 2
        apply Array.ext'
        simp
      | value x =>
        have stat : ∀ f as, x = .func f → args.toList.mapM (trArg nt) = some as → i = .call f as → Oper.wpIn (FW ro) 0 P ⟨dst, .call ⟨.value x, args, argTypes⟩, ty, pos, after, guard⟩ a K.w next Q := by
          intro f as hx has e
          subst hx; subst e
          simp only [Ins.ev] at h
          obtain ⟨he, _⟩ := hE.fn _ _ _ _ _ h
          refine call f _ (args.toList.map a.eval) ?_ (args_sound hρ has) h
          have := run_callFunc he (args.map a.eval) K.w
          have e2 : (args.toList.map a.eval).toArray = args.map a.eval := by apply Array.ext'; simp
          rw [e2]
          simp [execOp, resolve, invoke, Act.eval, Deferred.ofValue]
          simpa using this
        have dyn : ∀ x' as, trArg nt x = some x' → args.toList.mapM (trArg nt) = some as → i = .callV x' as → Oper.wpIn (FW ro) 0 P ⟨dst, .call ⟨.value x, args, argTypes⟩, ty, pos, after, guard⟩ a K.w next Q := by
          intro x' as hx has e
          subst e
          simp only [Ins.ev] at h
          split at h <;> try simp only [reduceCtorEq] at h
          case h_2 i heq =>
            have hxv := arg_sound hρ hx
            rw [heq] at hxv
            generalize e1 : a.eval x = xv at hxv
            cases hxv with
            | @yld _ l hb hl =>
            obtain ⟨rc, r1, r2, r3⟩ := hE.yl i _ σ v σ' h K _ l hKt hK (args_sound hρ has) hb hl
            refine ⟨fun _ _ => trivial, ?_⟩
            have hrun := run_yield (P := P) (args := (args.toList.map a.eval).toArray) r1 r2
            have e2 : (args.toList.map a.eval).toArray = args.map a.eval := by apply Array.ext'; simp
            have hx2 : (execOp a.eval ⟨dst, .call ⟨.value x, args, argTypes⟩, ty, pos, after, guard⟩).run P K.w = .ok (.round l rc.fn ((rc.params.zip (args.toList.map a.eval).toArray).foldl (fun tmps (t, a) => tmps.setIfInBounds t a) rc.tmps) rc.assign rc.body) K.w := by
              rw [e2] at hrun ⊢
              simp [execOp, resolve, invoke, e1, Deferred.ofValue]
              simpa using hrun
            rw [hsem, hx2, Oper.uponIn_round]
            refine ⟨fun h => by simp [Fence.wide] at h, (r3 ro).mono ?_⟩
            rintro e w' ⟨v', K', rfl, rfl, hs, hr', hvr⟩
            exact hn K' v' hs hr' hvr
          rename_i f first capt heq
          have hxv := arg_sound hρ hx
          rw [heq] at hxv
          generalize e1 : a.eval x = xv at hxv
          cases hxv with
          | func gf gc h1 h2 h3 h4 =>
          obtain ⟨he, _⟩ := hE.fn _ _ _ _ _ h
          refine call f _ (gf.toList ++ args.toList.map a.eval ++ gc.toList) ?_ (VRs.append (VRs.append ⟨by simpa using h1, fun j hj => by simpa using h3 j hj⟩ (args_sound hρ has)) ⟨by simpa using h2, fun j hj => by simpa using h4 j hj⟩) h
          have := run_callFunc he (gf ++ args.map a.eval ++ gc) K.w
          have e2 : (gf.toList ++ args.toList.map a.eval ++ gc.toList).toArray = gf ++ args.map a.eval ++ gc := by apply Array.ext'; simp
          rw [e2]
          simp [execOp, resolve, invoke, e1, Deferred.ofValue]
          simpa using this
        cases x <;> simp only [Option.bind_eq_some_iff, Option.map_eq_some_iff] at ht
        case func f =>
          obtain ⟨as, has, rfl⟩ := ht
          rcases callIns_cases P f as with e | ⟨_, _, _, _, _, _, _, ⟨_, e⟩ | ⟨_, e⟩⟩
          · exact stat f as rfl has e
          all_goals (rw [e] at hc; simp [Ins.isCall] at hc)
        all_goals (obtain ⟨x', hx, as, has, rfl⟩ := ht; exact dyn x' as hx has rfl)
    all_goals (simp [realCall] at hrc)
  · obtain ⟨K', hs, hr, hres⟩ := ins_sound (P := P) hK hρ ht (by simpa using hc) h
    exact mapped ⟨K', hs, hr, hres⟩

theorem op_sound {E : CallH} (hE : SoundT P tr E) (hKt : K.tr = tr) {σ σ' : St} (hK : Rel K σ) {nt : Nat} {ρ ρ' : Env} {a : Act} (hρ : EnvR K nt ρ a) {ops : Array Oper} {j : Nat} {o : Oper} (ho : ops[j]? = some o)
    (h : (trOp P nt ops o).ev E ρ σ = some (ρ', σ')) {next : Act → World → Prop} {Q : Exit → Act → World → Prop}
    (hn : ∀ K' a', Step K K' → Rel K' σ' → EnvR K' nt ρ' a' → a'.defers = a.defers → next a' K'.w) : wpOpIn (FW ro) 0 P ops Q j next a K.w := by
  obtain ⟨hg, hd, hi⟩ := trOp_no h
  have hw := yields_sound hρ hg
  have hdef : ∀ v', (a.put o.dst v').defers = a.defers := fun v' => by cases o.dst <;> rfl
  unfold wpOpIn
  rw [ho]
  simp only [hw]
  unfold Op.ev at h
  split at h
  · rename_i hwt
    rw [if_pos hwt]
    rw [hi, hd] at h
    simp only [Option.map_eq_some_iff, Prod.mk.injEq] at h
    obtain ⟨⟨v, σ1⟩, hev, rfl, rfl⟩ := h
    cases htr : trTake P nt o.op with
    | none => rw [htr] at hev; simp [Ins.ev] at hev
    | some i =>
      rw [htr] at hev
      exact upon_sound hE hKt hK hρ htr hev fun K' v' h1 h2 h3 => hn K' _ h1 h2 ((hρ.ext h1.ext).put h3) (hdef v')
  · rename_i hwt
    rw [if_neg hwt]
    simp only [Option.some.injEq, Prod.mk.injEq] at h
    obtain ⟨rfl, rfl⟩ := h
    refine ⟨fun _ _ => trivial, hn K _ (Step.refl K) hK ?_ (hdef undef)⟩
    rw [hd]
    exact hρ.put (.tup #[] rfl (fun j hj => by simp at hj))

theorem ops_sound {E : CallH} (hE : SoundT P tr E) {nt : Nat} {ops : Array Oper} {Q : Exit → Act → World → Prop} : ∀ (l : List Oper) (k : Nat), ops.toList.drop k = l →
    ∀ {K : Ctx} {σ σ' : St} {ρ ρ' : Env} {a : Act}, K.tr = tr → Rel K σ → EnvR K nt ρ a → opsEv E (l.map (trOp P nt ops)) ρ σ = some (ρ', σ') →
    (∀ K' a', Step K K' → Rel K' σ' → EnvR K' nt ρ' a' → a'.defers = a.defers → Q .normal a' K'.w) → wpOpsIn (FW ro) 0 P ops Q (List.range' k l.length) a K.w
  | [], k, _, K, σ, σ', ρ, ρ', a, hKt, hK, hρ, h, hn => by
    simp only [List.map_nil, opsEv, Option.some.injEq, Prod.mk.injEq] at h
    obtain ⟨rfl, rfl⟩ := h
    simp only [List.length_nil, List.range'_zero, wpOpsIn]
    exact hn K a (Step.refl K) hK hρ rfl
  | o :: l, k, hl, K, σ, σ', ρ, ρ', a, hKt, hK, hρ, h, hn => by
    have ho : ops[k]? = some o := by
      have : ops.toList[k]? = some o := by
        have := congrArg (·[0]?) hl
        simpa using this
      simpa using this
    have hl' : ops.toList.drop (k + 1) = l := by
      have := congrArg (List.drop 1) hl
      simpa using this
    simp only [List.length_cons, List.range'_succ]
    rw [wpOpsIn_cons]
    simp only [List.map_cons, opsEv] at h
    split at h
    · rename_i ρ1 σ1 hev
      refine op_sound hE hKt hK hρ ho hev fun K' a' h1 h2 h3 h4 => ?_
      exact ops_sound hE l (k + 1) hl' (h1.ext.tr.trans hKt) h2 h3 h fun K'' a'' q1 q2 q3 q4 => hn K'' a'' (h1.trans q1) q2 q3 (q4.trans h4)
    · simp at h

end
end Go.Vm
