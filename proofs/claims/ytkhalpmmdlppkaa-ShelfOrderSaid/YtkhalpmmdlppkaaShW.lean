/-
  ShelfOrder: the arguments that are handed in.
-/
import Derived.Test.YtkhalpmmdlppkaaShV
import Derived.Test.YtkhalpmmdlppkaaShP
namespace Go.Proofs.Ytkhalpmmdlppkaa
set_option linter.unusedSimpArgs false
set_option linter.unusedVariables false
open Go.Vm

theorem order_law : ∀ xs, ArgsOk [.int .i64, .int .i64, .sl 40 scSh] xs → ev (tab hsS) 8 xs emptySt = some (.bool true, emptySt) := by
  rintro xs ⟨c1, r1, ⟨n, rfl, _⟩, ⟨c2, r2, ⟨t, rfl, _⟩, ⟨c3, r3, h3, rfl, rfl⟩, rfl⟩, rfl⟩
  obtain ⟨l, rfl⟩ := scs_of h3
  exact pure_ev (tab8 hsS) (snaps_cons rfl (snaps_cons rfl (snaps_cons rfl (snaps_nil _)))) (order_pure n t l)
end Go.Proofs.Ytkhalpmmdlppkaa
