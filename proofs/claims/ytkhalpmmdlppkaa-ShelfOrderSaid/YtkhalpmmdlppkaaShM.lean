/-
  THE SHELF's laws: calls that are handed in; lists of what is there.
-/
import Derived.Test.YtkhalpmmdlppkaaShL
namespace Go.Proofs.Ytkhalpmmdlppkaa
set_option linter.unusedSimpArgs false
set_option linter.unusedVariables false
open Go.Vm

theorem awake41 (σ : St) : ev (tab hsS) 41 [] σ = some (.bool true, σ) := rfl

theorem mod_small (a : Int) (m : Nat) (h0 : 0 < m) (h1 : m < 2 ^ 31) : ∃ t : Nat, t < m ∧ IntKind.i64.wrap ((IntKind.u64.wrap a).tmod m) = t := by
  have hw : 0 ≤ IntKind.u64.wrap a := by
    show 0 ≤ a % 18446744073709551616
    exact Int.emod_nonneg _ (by decide)
  have h2 : 0 ≤ (IntKind.u64.wrap a).tmod m := Int.tmod_nonneg _ hw
  have h3 : (IntKind.u64.wrap a).tmod m < m := Int.tmod_lt_of_pos _ (by omega)
  refine ⟨((IntKind.u64.wrap a).tmod m).toNat, by omega, ?_⟩
  rw [wrap_i64 (by omega) (by omega)]; omega

/-- A call of the script. -/
structure Sc where
  kind : Int
  v : Int
  u : Int
  sz : Int
  us : Int
  c : Bool
def scc (x : Sc) : List AV := [.int .i64 x.kind, .int .u32 x.v, .int .u32 x.u, .int .i64 x.sz, .int .i64 x.us, .bool x.c]
def scs (l : List Sc) : List AV := l.flatMap scc
theorem scs_len : ∀ l : List Sc, (scs l).length = l.length * 6
  | [] => rfl
  | x :: l => by
    have := scs_len l
    simp only [scs, List.flatMap_cons, List.length_append, List.length_cons] at this ⊢
    rw [this]; simp [scc]; omega
theorem scs_at : ∀ {l : List Sc} {i : Nat} {x : Sc}, l[i]? = some x → ((scs l).drop (i * 6)).take 6 = scc x
  | y :: l, 0, x, hx => by
    simp only [List.getElem?_cons_zero, Option.some.injEq] at hx; subst hx
    rw [scs, List.flatMap_cons, Nat.zero_mul, List.drop_zero]
    exact List.take_left' rfl
  | y :: l, i + 1, x, hx => by
    rw [scs, List.flatMap_cons, Nat.add_mul, Nat.one_mul, Nat.add_comm, ← List.drop_drop]
    show List.take 6 (List.drop (i * 6) (scs l)) = _
    exact scs_at (l := l) (by simpa using hx)

/-- One that is there. -/
structure Rw where
  k : Ky
  c : Bool
def rwc (r : Rw) : List AV := [.int .u32 r.k.v, .int .u32 r.k.u, .int .i64 r.k.sz, .int .i64 r.k.us, .bool r.c]
def rws (l : List Rw) : List AV := l.flatMap rwc
theorem rws_len : ∀ l : List Rw, (rws l).length = l.length * 5
  | [] => rfl
  | x :: l => by
    have := rws_len l
    simp only [rws, List.flatMap_cons, List.length_append, List.length_cons] at this ⊢
    rw [this]; simp [rwc]; omega
theorem rws_at : ∀ {l : List Rw} {i : Nat} {x : Rw} {junk : List AV}, l[i]? = some x → ((rws l ++ junk).drop (i * 5)).take 5 = rwc x
  | y :: l, 0, x, junk, hx => by
    simp only [List.getElem?_cons_zero, Option.some.injEq] at hx; subst hx
    rw [rws, List.flatMap_cons, Nat.zero_mul, List.drop_zero]
    rfl
  | y :: l, i + 1, x, junk, hx => by
    rw [rws, List.flatMap_cons, Nat.add_mul, Nat.one_mul, Nat.add_comm, ← List.drop_drop]
    show List.take 5 (List.drop (i * 5) (rws l ++ junk)) = _
    exact rws_at (l := l) (by simpa using hx)
theorem rws_app (a b : List Rw) : rws (a ++ b) = rws a ++ rws b := by simp [rws]
theorem rws_cell (l : List Rw) : (rws l).all AV.isCell = true := by
  simp only [rws, List.all_eq_true, List.mem_flatMap]
  rintro y ⟨x, _, hy⟩
  simp [rwc] at hy
  rcases hy with rfl | rfl | rfl | rfl | rfl <;> rfl

/-- The list of what is there. -/
def HavL (σ : St) (a : AV) (rows : List Rw) : Prop := (a = .nilsl ∧ rows = []) ∨ ∃ (G : Vm.Id) (cap : Cap) (junk : List AV), a = .sl G 0 rows.length cap 5 ∧ cap.room = rows.length ∧ σ.get G = some (rws rows ++ junk)

theorem HavL.keep {σ σ' : St} {a : AV} {rows : List Rw} (h : HavL σ a rows) (hg : ∀ G, refId a = some G → σ'.get G = σ.get G) : HavL σ' a rows := by
  rcases h with h | ⟨G, cap, junk, rfl, h1, h2⟩
  · exact .inl h
  · exact .inr ⟨G, cap, junk, rfl, h1, (hg G rfl).trans h2⟩
theorem HavL.len {σ : St} {a : AV} {rows : List Rw} (h : HavL σ a rows) (s : St) : lenIn s .sl a = some rows.length := by
  rcases h with ⟨rfl, rfl⟩ | ⟨G, cap, junk, rfl, _⟩ <;> rfl
theorem OutL.len {σ : St} {f : Vm.Id → Ky} {a : AV} {xs : List Vm.Id} (h : OutL σ f a xs) (s : St) : lenIn s .sl a = some xs.length := by
  rcases h with ⟨rfl, rfl⟩ | ⟨G, rfl, _⟩ <;> rfl

theorem app_row {s : St} {a : AV} {rows : List Rw} (h : HavL s a rows) (few : rows.length < 2 ^ 30) (r : Rw) :
    ∃ s', appendTo s 5 32 1 (rwc r) a = some (.sl ⟨s.next, 0, 0⟩ 0 (rows.length + 1) (.ge (rows.length + 1)) 5, s') ∧ s'.get ⟨s.next, 0, 0⟩ = some (rws (rows ++ [r])) ∧ s'.next = s.next + 1 ∧ s'.ver = s.ver ∧ (∀ q, q.o < s.next → refId a ≠ some q → s'.heap q = s.heap q) := by
  have e1 : rws [r] = rwc r := by simp [rws]
  have hc1 : (rwc r).all AV.isCell = true := rfl
  rcases h with ⟨rfl, rfl⟩ | ⟨G, cap, junk, rfl, hr, hg⟩
  · refine ⟨s.new (rwc r), ?_, by rw [get_new, if_pos rfl]; simp [rws], rfl, rfl, fun q hq _ => (Frm.new s _ (fun _ => False)).heap q hq (fun h => h)⟩
    rw [append_nil' (by omega) (by decide) hc1]; rfl
  · have hmx : (rows.length + 1) * 32 ≤ lenMax := by have : lenMax = 2 ^ 46 := rfl; omega
    have e : List.take (rows.length * 5) (List.drop 0 (rws rows ++ junk)) ++ rwc r = rws (rows ++ [r]) := by
      rw [List.drop_zero, List.take_left' (rws_len rows), rws_app, e1]
    cases cap with
    | ex c =>
      refine ⟨s.new (rws (rows ++ [r])), ?_, by rw [get_new]; exact if_pos rfl, rfl, rfl, fun q hq _ => (Frm.new s _ (fun _ => False)).heap q hq (fun h => h)⟩
      simp only [Cap.room] at hr; subst hr
      simp only [appendTo, hg, Cap.room]
      rw [if_neg (by simp), if_neg (by omega), if_pos ⟨by rw [List.length_append, rws_len]; omega, hmx⟩, e, newCells_ok (rws_cell _)]
      rfl
    | ge c =>
      refine ⟨(s.set G none).new (rws (rows ++ [r])), ?_, by rw [get_new]; exact if_pos rfl, rfl, rfl, fun q hq hne => ?_⟩
      · simp only [Cap.room] at hr; subst hr
        simp only [appendTo, hg, Cap.room]
        rw [if_neg (by simp), if_neg (by omega), if_pos ⟨by rw [List.length_append, rws_len]; omega, hmx⟩, e, newCells_ok (rws_cell _)]
        rfl
      · have e1 : q ≠ G := fun e => hne (by simp [refId, e])
        have e2 : ¬ (q = ⟨s.next, 0, 0⟩) := fun e => by subst e; simp at hq
        simp [St.new, St.set, e1, e2]

theorem Rep.lF {σ : St} {S M : Vm.Id} {bud : Int} {L H : List Vm.Id} {f : Vm.Id → Ky} {cc : AV} (R : Rep σ S M bud L H f cc) : ∀ q, Fp S M L cc q → q.o < σ.next := by
  rintro q (rfl | rfl | hq | hq)
  · exact R.lS
  · exact R.lM
  · exact R.lL q hq
  · exact R.hc.lb q hq
end Go.Proofs.Ytkhalpmmdlppkaa
