/-
  ShelfKeeps: the arguments that are handed in.
-/
import Derived.Test.YtkhalpmmdlppkaaShO
namespace Go.Proofs.Ytkhalpmmdlppkaa
set_option linter.unusedSimpArgs false
set_option linter.unusedVariables false
open Go.Vm

def hsSn : FuncId → Hint
  | 41 => .pure
  | _ => .raw
theorem hsSn_plain : ∀ f g, hsSn f = .known g → Known Try.prog f g := by
  intro f g h
  unfold hsSn at h
  split at h <;> cases h

theorem sn_run : ∃ s, callC (auto Try.prog hsSn) (runC (auto Try.prog hsSn) 100000) 41 [] HS.zero = some (.bool true, s) := ⟨HS.zero, by kernel_rfl⟩

theorem auto_hint {P : Program} {h : FuncId → Hint} {f : FuncId} {fi : FnI} (hf : auto P h f = some fi) : fi.hint = h f := by
  unfold auto at hf
  split at hf
  · unfold autoFn at hf
    repeat' split at hf
    all_goals first | (simp only [Option.some.injEq] at hf; subst hf; rfl) | simp at hf
  · simp at hf

theorem awake_S : Known Try.prog 41 (just (.bool true)) := by
  obtain ⟨s, hr⟩ := sn_run
  cases h : auto Try.prog hsSn 41 with
  | none => simp [callC, fnC, h] at hr
  | some fi =>
    exact known_just Try.checked.mixed (auto_ok hsSn_plain) h (auto_hint h) hr

theorem hsS_known : ∀ f g, hsS f = .known g → Known Try.prog f g := by
  intro f g h
  unfold hsS at h
  split at h <;> first | (cases h; done) | (cases h; exact awake_S)

theorem sound_S : SoundE Try.prog (ev (tab hsS)) := tab_sound hsS hsS_known

abbrev scSh : Sh := .st [.int .i64, .st [.int .u32, .int .u32], .int .i64, .int .i64, .bool]

theorem sc_of {cs : List AV} (h : Sh.ok scSh cs) : ∃ x : Sc, cs = scc x := by
  obtain ⟨c1, r1, ⟨kd, rfl, _⟩, ⟨c2, r2, ⟨d1, t1, ⟨v, rfl, _⟩, ⟨d2, t2, ⟨u, rfl, _⟩, rfl, rfl⟩, rfl⟩, ⟨c3, r3, ⟨sz, rfl, _⟩, ⟨c4, r4, ⟨us, rfl, _⟩, ⟨c5, r5, ⟨c, rfl⟩, rfl, rfl⟩, rfl⟩, rfl⟩, rfl⟩, rfl⟩ := h
  exact ⟨⟨kd, v, u, sz, us, c⟩, rfl⟩

theorem scs_of {by_ : Nat} {cs : List AV} (h : Sh.ok (.sl by_ scSh) cs) : ∃ l : List Sc, cs = [.isl false (scs l) l.length none] := by
  obtain ⟨rows, h1, h2, _, rfl⟩ := h
  have key : ∀ rows : List (List AV), (∀ r, r ∈ rows → Sh.ok scSh r) → ∃ l : List Sc, rows.flatten = scs l ∧ l.length = rows.length := by
    intro rows
    induction rows with
    | nil => intro _; exact ⟨[], rfl, rfl⟩
    | cons r rows ih =>
      intro h
      obtain ⟨l, hk, hl⟩ := ih fun x hx => h x (by simp [hx])
      obtain ⟨x, rfl⟩ := sc_of (h r (by simp))
      exact ⟨x :: l, by rw [List.flatten_cons, hk]; rfl, by simp [hl]⟩
  obtain ⟨l, hk, hl⟩ := key rows h1
  exact ⟨l, by rw [hk, hl]⟩

theorem keeps_law : ∀ xs, ArgsOk [.int .i64, .sl 40 scSh] xs → ev (tab hsS) 7 xs emptySt = some (.bool true, emptySt) := by
  rintro xs ⟨c1, r1, ⟨n, rfl, _⟩, ⟨c2, r2, h2, rfl, rfl⟩, rfl⟩
  obtain ⟨l, rfl⟩ := scs_of h2
  exact pure_ev (tab7 hsS) (snaps_cons rfl (snaps_cons rfl (snaps_nil _))) (keeps_pure n l)
end Go.Proofs.Ytkhalpmmdlppkaa
