/-
  HouseNil: the run, reckoned by the kernel: a nil house answers that it is nil, and nothing is there; a house is awake. No package variable is read on the way.
-/
import Derived.Test.YtmkoicmfceipbaaGreatDoorRows
import Derived.Test.YtmkoicmfceipbaaGreatDoorVmEw
namespace Go.Proofs.YtmkoicmfceipbaaGreatDoor
set_option linter.unusedSimpArgs false
set_option linter.unusedVariables false
open Go.Vm

/-- How each function is called: the law's and the first run over pictures, all else where it stands. -/
def hsHn : FuncId → Hint
  | 3 => .pure
  | 7 => .pure
  | _ => .raw
theorem hsHn_plain : ∀ f g, hsHn f = .known g → Known Tryz.prog f g := by
  intro f g h
  unfold hsHn at h
  split at h <;> cases h

theorem hn_run (kind : Int) (box to date : List UInt8) (fl body uids : List AV) (nf nb nu : Nat) (uid op : Int) :
    callC (auto Tryz.prog hsHn) (runC (auto Tryz.prog hsHn) 100000) 3 [.agg [.int .i64 kind, .str box, .str to, .isl false fl nf none, .str date, .isl false body nb none, .int .u32 uid, .isl false uids nu none, .int .i64 op]] HS.zero = some (.bool true, HS.zero) := by
  kernel_rfl

theorem hn_sound : SoundE Tryz.prog (ev (auto Tryz.prog hsHn)) := ev_sound Tryz.checked.mixed (auto_ok hsHn_plain)

theorem hn_law : ∀ xs, ArgsOk [.st [.int .i64, .str, .str, .sl 16 .str, .str, .sl 1 (.int .u8), .int .u32, .sl 4 (.int .u32), .int .i64]] xs → ev (auto Tryz.prog hsHn) 3 xs emptySt = some (.bool true, emptySt) := by
  rintro xs ⟨c1, r1, ⟨_, _, ⟨kind, rfl, _⟩, ⟨_, _, ⟨box, rfl, _⟩, ⟨_, _, ⟨to, rfl, _⟩, ⟨_, _, ⟨fl, _, _, _, rfl⟩, ⟨_, _, ⟨date, rfl, _⟩, ⟨_, _, ⟨body, _, _, _, rfl⟩, ⟨_, _, ⟨uid, rfl, _⟩, ⟨_, _, ⟨uids, _, _, _, rfl⟩, ⟨_, _, ⟨op, rfl, _⟩, rfl, rfl⟩, rfl⟩, rfl⟩, rfl⟩, rfl⟩, rfl⟩, rfl⟩, rfl⟩, rfl⟩, rfl, rfl⟩
  have := (callC_abs (runC_abs 100000)).fn _ _ _ _ _ (hn_run kind box to date fl.flatten body.flatten uids.flatten fl.length body.length uids.length uid op)
  rw [abs_zero] at this
  exact this
end Go.Proofs.YtmkoicmfceipbaaGreatDoor
