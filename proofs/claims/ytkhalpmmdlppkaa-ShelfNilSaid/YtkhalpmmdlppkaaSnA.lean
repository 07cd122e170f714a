/-
  ShelfNil: the run, reckoned by the kernel: on a nil shelf every call answers that it is nil, and nothing is there.
-/
import Derived.Test.YtkhalpmmdlppkaaRows
import Derived.Test.YtkhalpmmdlppkaaVmEw
namespace Go.Proofs.Ytkhalpmmdlppkaa
set_option linter.unusedSimpArgs false
set_option linter.unusedVariables false
open Go.Vm

/-- How each function is called: the two laws' functions over pictures, all else where it stands. -/
def hsSn : FuncId → Hint
  | 10 => .pure
  | 41 => .pure
  | _ => .raw
theorem hsSn_plain : ∀ f g, hsSn f = .known g → Known Try.prog f g := by
  intro f g h
  unfold hsSn at h
  split at h <;> cases h

theorem sn_run (a b size used : Int) (c : Bool) : callC (auto Try.prog hsSn) (runC (auto Try.prog hsSn) 100000) 10 [.agg [.int .u32 a, .int .u32 b], .int .i64 size, .int .i64 used, .bool c] HS.zero = some (.bool true, HS.zero) := by
  kernel_rfl

theorem sn_sound : SoundE Try.prog (ev (auto Try.prog hsSn)) := ev_sound Try.checked.mixed (auto_ok hsSn_plain)

theorem sn_law : ∀ xs, ArgsOk [.st [.int .u32, .int .u32], .int .i64, .int .i64, .bool] xs → ev (auto Try.prog hsSn) 10 xs emptySt = some (.bool true, emptySt) := by
  rintro xs ⟨c1, r1, ⟨x1, y1, ⟨a, rfl, _⟩, ⟨x2, y2, ⟨b, rfl, _⟩, rfl, rfl⟩, rfl⟩, ⟨c2, r2, ⟨size, rfl, _⟩, ⟨c3, r3, ⟨used, rfl, _⟩, ⟨c4, r4, ⟨c, rfl⟩, rfl, rfl⟩, rfl⟩, rfl⟩, rfl⟩
  have := callC_abs (runC_abs 100000) _ _ _ _ _ (sn_run a b size used c)
  rw [abs_zero] at this
  exact this
end Go.Proofs.Ytkhalpmmdlppkaa
