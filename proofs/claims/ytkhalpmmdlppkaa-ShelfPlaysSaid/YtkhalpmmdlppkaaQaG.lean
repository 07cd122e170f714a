/-
  ShelfPlays: THE ROW: whatever is put, touched, cleaned and dropped, of any budget: just those go that were used least, and are clean, in that order.
-/
import Derived.Test.YtkhalpmmdlppkaaQaF
namespace Go.Proofs.Ytkhalpmmdlppkaa
set_option linter.unusedSimpArgs false
set_option linter.unusedVariables false
open Go.Vm

theorem shelfplays_own : ownKnob Try.prog.godebug = none := by kernel_rfl
theorem shelfplays_laid : laidOutB Try.prog = true := by kernel_rfl

set_option maxRecDepth 100000 in
theorem shelfplays_lifted (os : Os) (started : os.Started) (H : Type) (enc : TypeId × Value → H) :
    ReturnsInHanded {} Try.checked os 9 .any (Rows.shelfPlaysSpec.pre6 enc Try.prog Try.f9 Rows.shelfPlaysRow.domain false) (Rows.shelfPlaysSpec.post enc Try.prog Try.f9 false true false false) := by
  refine returnsInHanded_of_change_sized (C := Try.checked) shelfplays_own started (by kernel_rfl) Try.func9
    (ChangeSpec.witness6 (enc := enc) (C := Try.checked) false ⟨#[], #[.int .i64 0, .slice none 0 0], []⟩ 8 (by kernel_rfl) (by kernel_rfl) (by kernel_rfl) (by kernel_rfl)) ?_
  intro W base args ds gs before hval hW _ hsz _
  exact contract sound_S shelfplays_laid (by kernel_rfl) (bt := 4) (by kernel_rfl) (by kernel_rfl) (shs := [.int .i64, .sl 40 scSh]) (by kernel_rfl)
    ⟨rfl, fun H ds hl => by
      match ds, hl with
      | [a, b], _ => exact ⟨rfl, rfl, rfl⟩⟩ W base args ds gs before splays_law hval hW hsz

theorem shelfplays_proved : Rows.ShelfPlaysSaid :=
  OpenClaim.holds_of_wide 9 Try.f9 rfl rfl rfl rfl rfl rfl rfl ⟨rfl, rfl, rfl, rfl, rfl⟩ rfl rfl rfl rfl rfl (by kernel_rfl) Try.func9 (by kernel_rfl)
    (of_decide_eq_true (by kernel_rfl)) (by unfold Func.isWrapper; first | (rw [if_pos (by decide +kernel)]; kernel_rfl) | (rw [if_neg (by decide +kernel)]; exact ⟨rfl, rfl⟩))
    (fun os started H enc _ => shelfplays_lifted os started H enc)
#print axioms shelfplays_proved
end Go.Proofs.Ytkhalpmmdlppkaa
