/-
  WalNil: the run, reckoned by the kernel: a nil log answers that it is nil, and nothing is there; a log on a small disk is awake.
-/
import Derived.Test.YtkhalpmmdlppkaaRows
import Derived.Test.YtkhalpmmdlppkaaVmEw
namespace Go.Proofs.Ytkhalpmmdlppkaa
set_option linter.unusedSimpArgs false
set_option linter.unusedVariables false
open Go.Vm

/-- How each function is called: the law's, the first run's and the readings of eight bytes over pictures, all else where it stands. -/
def hsWn : FuncId → Hint
  | 12 => .pure
  | 55 => .pure
  | 103 => .pure
  | _ => .raw
theorem hsWn_plain : ∀ f g, hsWn f = .known g → Known Try.prog f g := by
  intro f g h
  unfold hsWn at h
  split at h <;> cases h

theorem wn_run (cs : List AV) (len : Nat) (n : Int) : callC (auto Try.prog hsWn) (runC (auto Try.prog hsWn) 100000) 12 [.isl false cs len none, .int .u64 n] HS.zero = some (.bool true, HS.zero) := by
  kernel_rfl

theorem wn_sound : SoundE Try.prog (ev (auto Try.prog hsWn)) := ev_sound Try.checked.mixed (auto_ok hsWn_plain)

theorem wn_law : ∀ xs, ArgsOk [.sl 1 (.int .u8), .int .u64] xs → ev (auto Try.prog hsWn) 12 xs emptySt = some (.bool true, emptySt) := by
  rintro xs ⟨c1, r1, ⟨rows, _, _, _, rfl⟩, ⟨c2, r2, ⟨n, rfl, _⟩, rfl, rfl⟩, rfl⟩
  have := (callC_abs (runC_abs 100000)).fn _ _ _ _ _ (wn_run rows.flatten rows.length n)
  rw [abs_zero] at this
  exact this
end Go.Proofs.Ytkhalpmmdlppkaa
