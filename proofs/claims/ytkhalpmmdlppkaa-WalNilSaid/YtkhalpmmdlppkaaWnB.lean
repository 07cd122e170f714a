/-
  WalNil: THE ROW: a nil log answers that it is nil, and nothing is there.
-/
import Derived.Test.YtkhalpmmdlppkaaWnA
namespace Go.Proofs.Ytkhalpmmdlppkaa
set_option linter.unusedSimpArgs false
set_option linter.unusedVariables false
open Go.Vm

theorem walnil_own : ownKnob Try.prog.godebug = none := by kernel_rfl
theorem walnil_laid : laidOutB Try.prog = true := by kernel_rfl

set_option maxRecDepth 100000 in
theorem walnil_lifted (os : Os) (started : os.Started) (H : Type) (enc : TypeId × Value → H) :
    ReturnsInHanded {} Try.checked os 12 .any (Rows.walNilSpec.pre6 enc Try.prog Try.f12 Rows.walNilRow.domain false) (Rows.walNilSpec.post enc Try.prog Try.f12 false true false false) := by
  refine returnsInHanded_of_change_sized (C := Try.checked) walnil_own started (by kernel_rfl) Try.func12
    (ChangeSpec.witness6 (enc := enc) (C := Try.checked) false ⟨#[], #[.slice none 0 0, .int .u64 0], []⟩ 8 (by kernel_rfl) (by kernel_rfl) (by kernel_rfl) (by kernel_rfl)) ?_
  intro W base args ds gs before hval hW _ hsz _
  exact contract wn_sound walnil_laid (by kernel_rfl) (bt := 4) (by kernel_rfl) (by kernel_rfl) (shs := [.sl 1 (.int .u8), .int .u64]) (by kernel_rfl)
    ⟨rfl, fun H ds hl => by
      match ds, hl with
      | [a, b], _ => exact ⟨rfl, rfl, rfl⟩⟩ W base args ds gs before wn_law hval hW hsz

theorem walnil_proved : Rows.WalNilSaid :=
  OpenClaim.holds_of_wide 12 Try.f12 rfl rfl rfl rfl rfl rfl rfl ⟨rfl, rfl, rfl, rfl, rfl⟩ rfl rfl rfl rfl rfl (by kernel_rfl) Try.func12 (by kernel_rfl)
    (of_decide_eq_true (by kernel_rfl)) (by unfold Func.isWrapper; first | (rw [if_pos (by decide +kernel)]; kernel_rfl) | (rw [if_neg (by decide +kernel)]; exact ⟨rfl, rfl⟩))
    (fun os started H enc _ => walnil_lifted os started H enc)
#print axioms walnil_proved
end Go.Proofs.Ytkhalpmmdlppkaa
