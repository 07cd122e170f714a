/-
  ShelfKeeps: THE ROW: on any shelf, whatever is put: what is not clean never goes; what goes leaves no more than the budget, or nothing that is clean; asked again nothing goes.
-/
import Derived.Test.YtkhalpmmdlppkaaShP
namespace Go.Proofs.Ytkhalpmmdlppkaa
set_option linter.unusedSimpArgs false
set_option linter.unusedVariables false
open Go.Vm

theorem shelfkeeps_own : ownKnob Try.prog.godebug = none := by kernel_rfl
theorem shelfkeeps_laid : laidOutB Try.prog = true := by kernel_rfl

set_option maxRecDepth 100000 in
theorem shelfkeeps_lifted (os : Os) (started : os.Started) (H : Type) (enc : TypeId × Value → H) :
    ReturnsInHanded {} Try.checked os 7 .any (Rows.shelfKeepsSpec.pre6 enc Try.prog Try.f7 Rows.shelfKeepsRow.domain false) (Rows.shelfKeepsSpec.post enc Try.prog Try.f7 false true false false) := by
  refine returnsInHanded_of_change_sized (C := Try.checked) shelfkeeps_own started (by kernel_rfl) Try.func7
    (ChangeSpec.witness6 (enc := enc) (C := Try.checked) false ⟨#[], #[.int .i64 0, .slice none 0 0], []⟩ 8 (by kernel_rfl) (by kernel_rfl) (by kernel_rfl) (by kernel_rfl)) ?_
  intro W base args ds gs before hval hW _ hsz _
  exact contract sound_S shelfkeeps_laid (by kernel_rfl) (bt := 4) (by kernel_rfl) (by kernel_rfl) (shs := [.int .i64, .sl 40 scSh]) (by kernel_rfl)
    ⟨rfl, fun H ds hl => by
      match ds, hl with
      | [a, b], _ => exact ⟨rfl, rfl, rfl⟩⟩ W base args ds gs before keeps_law hval hW hsz

theorem shelfkeeps_proved : Rows.ShelfKeepsSaid :=
  OpenClaim.holds_of_wide 7 Try.f7 rfl rfl rfl rfl rfl rfl rfl ⟨rfl, rfl, rfl, rfl, rfl⟩ rfl rfl rfl rfl rfl (by kernel_rfl) Try.func7 (by kernel_rfl)
    (of_decide_eq_true (by kernel_rfl)) (by unfold Func.isWrapper; first | (rw [if_pos (by decide +kernel)]; kernel_rfl) | (rw [if_neg (by decide +kernel)]; exact ⟨rfl, rfl⟩))
    (fun os started H enc _ => shelfkeeps_lifted os started H enc)
#print axioms shelfkeeps_proved
end Go.Proofs.Ytkhalpmmdlppkaa
