/-
  TableNil: THE ROW: a nil table answers that it is nil, and nothing is there.
-/
import Derived.Test.YtbhebfhcmemaaaaTnA
namespace Go.Proofs.Ytbhebfhcmemaaaa
set_option linter.unusedSimpArgs false
set_option linter.unusedVariables false
open Go.Vm

theorem tablenil_own : ownKnob Try.prog.godebug = none := by kernel_rfl
theorem tablenil_laid : laidOutB Try.prog = true := by kernel_rfl

set_option maxRecDepth 100000 in
theorem tablenil_lifted (os : Os) (started : os.Started) (H : Type) (enc : TypeId × Value → H) :
    ReturnsInHanded {} Try.checked os 6 .any (Rows.tableNilSpec.pre6 enc Try.prog Try.f6 Rows.tableNilRow.domain false) (Rows.tableNilSpec.post enc Try.prog Try.f6 false true false false) := by
  refine returnsInHanded_of_change_sized (C := Try.checked) tablenil_own started (by kernel_rfl) Try.func6
    (ChangeSpec.witness6 (enc := enc) (C := Try.checked) false ⟨#[], #[.slice none 0 0, .slice none 0 0], []⟩ 8 (by kernel_rfl) (by kernel_rfl) (by kernel_rfl) (by kernel_rfl)) ?_
  intro W base args ds gs before hval hW _ hsz _
  exact contract tn_sound tablenil_laid (by kernel_rfl) (bt := 4) (by kernel_rfl) (by kernel_rfl) (shs := [.sl 56 (.st [.sl 1 (.int .u8), .sl 1 (.int .u8), .bool]), .sl 1 (.int .u8)]) (by kernel_rfl)
    ⟨rfl, fun H ds hl => by
      match ds, hl with
      | [a, b], _ => exact ⟨rfl, rfl, rfl⟩⟩ W base args ds gs before tn_law hval hW hsz

theorem tablenil_proved : Rows.TableNilSaid :=
  OpenClaim.holds_of_wide 6 Try.f6 rfl rfl rfl rfl rfl rfl rfl ⟨rfl, rfl, rfl, rfl, rfl⟩ rfl rfl rfl rfl rfl (by kernel_rfl) Try.func6 (by kernel_rfl)
    (of_decide_eq_true (by kernel_rfl)) (by unfold Func.isWrapper; first | (rw [if_pos (by decide +kernel)]; kernel_rfl) | (rw [if_neg (by decide +kernel)]; exact ⟨rfl, rfl⟩))
    (fun os started H enc _ => tablenil_lifted os started H enc)
#print axioms tablenil_proved
end Go.Proofs.Ytbhebfhcmemaaaa
