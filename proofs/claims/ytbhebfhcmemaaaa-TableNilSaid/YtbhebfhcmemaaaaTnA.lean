/-
  TableNil: the run, reckoned by the kernel: a nil table answers that it is nil, and nothing is there; a table on a small disk is awake.
-/
import Derived.Test.YtbhebfhcmemaaaaRows
import Derived.Test.YtbhebfhcmemaaaaVmEw
namespace Go.Proofs.Ytbhebfhcmemaaaa
set_option linter.unusedSimpArgs false
set_option linter.unusedVariables false
open Go.Vm

/-- How each function is called: the law's, the first run's and the readings of eight bytes over pictures, all else where it stands. -/
def hsTn : FuncId → Hint
  | 6 => .pure
  | 10 => .pure
  | 87 => .pure
  | _ => .raw
theorem hsTn_plain : ∀ f g, hsTn f = .known g → Known Try.prog f g := by
  intro f g h
  unfold hsTn at h
  split at h <;> cases h

theorem tn_run (cs ks : List AV) (len n : Nat) : callC (auto Try.prog hsTn) (runC (auto Try.prog hsTn) 100000) 6 [.isl false cs len none, .isl false ks n none] HS.zero = some (.bool true, HS.zero) := by
  kernel_rfl

theorem tn_sound : SoundE Try.prog (ev (auto Try.prog hsTn)) := ev_sound Try.checked.mixed (auto_ok hsTn_plain)

theorem tn_law : ∀ xs, ArgsOk [.sl 56 (.st [.sl 1 (.int .u8), .sl 1 (.int .u8), .bool]), .sl 1 (.int .u8)] xs → ev (auto Try.prog hsTn) 6 xs emptySt = some (.bool true, emptySt) := by
  rintro xs ⟨c1, r1, ⟨rows, _, _, _, rfl⟩, ⟨c2, r2, ⟨keys, _, _, _, rfl⟩, rfl, rfl⟩, rfl⟩
  have := (callC_abs (runC_abs 100000)).fn _ _ _ _ _ (tn_run rows.flatten keys.flatten rows.length keys.length)
  rw [abs_zero] at this
  exact this
end Go.Proofs.Ytbhebfhcmemaaaa
