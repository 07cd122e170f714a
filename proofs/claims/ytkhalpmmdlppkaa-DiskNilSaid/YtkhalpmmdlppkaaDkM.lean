/-
  DiskNil: THE ROW.
-/
import Derived.Test.YtkhalpmmdlppkaaDkN
import Derived.Test.YtkhalpmmdlppkaaDkL
namespace Go.Proofs.Ytkhalpmmdlppkaa
set_option linter.unusedSimpArgs false
set_option linter.unusedVariables false
open Go.Vm

theorem nil_law : ∀ xs, ArgsOk [.int .i64, .sl 1 (.int .u8), .sl 8 (.int .i64)] xs → ev (tab hsD) 6 xs emptySt = some (.bool true, emptySt) := by
  rintro xs ⟨c1, r1, ⟨x, rfl, _⟩, ⟨c2, r2, ⟨_, _, _, _, rfl⟩, ⟨c3, r3, ⟨_, _, _, _, rfl⟩, rfl, rfl⟩, rfl⟩, rfl⟩
  exact pure_ev (tab6 hsD) (snaps_cons rfl (snaps_cons rfl (snaps_cons rfl (snaps_nil _)))) (nil_pure x _ _ _ _)

set_option maxRecDepth 100000 in
theorem nil_lifted (os : Os) (started : os.Started) (H : Type) (enc : TypeId × Value → H) :
    ReturnsInHanded {} Try.checked os 6 .any (Rows.diskNilSpec.pre6 enc Try.prog Try.f6 Rows.diskNilRow.domain false) (Rows.diskNilSpec.post enc Try.prog Try.f6 false true false false) := by
  refine returnsInHanded_of_change_sized (C := Try.checked) own started (by kernel_rfl) Try.func6
    (ChangeSpec.witness6 (enc := enc) (C := Try.checked) false ⟨#[], #[.int .i64 0, .slice none 0 0, .slice none 0 0], []⟩ 8 (by kernel_rfl) (by kernel_rfl) (by kernel_rfl) (by kernel_rfl)) ?_
  intro W base args ds gs before hval hW _ hsz _
  exact contract (tab_sound hsD) laidOut (by kernel_rfl) (bt := 4) (by kernel_rfl) (by kernel_rfl) (shs := [.int .i64, .sl 1 (.int .u8), .sl 8 (.int .i64)]) (by kernel_rfl)
    ⟨rfl, fun H ds hl => by
      match ds, hl with
      | [a, b, c], _ => exact ⟨rfl, rfl, rfl⟩⟩ W base args ds gs before nil_law hval hW hsz

theorem disknil_proved : Rows.DiskNilSaid :=
  OpenClaim.holds_of_wide 6 Try.f6 rfl rfl rfl rfl rfl rfl rfl ⟨rfl, rfl, rfl, rfl, rfl⟩ rfl rfl rfl rfl rfl (by kernel_rfl) Try.func6 (by kernel_rfl)
    (of_decide_eq_true (by kernel_rfl)) (by unfold Func.isWrapper; first | (rw [if_pos (by decide +kernel)]; kernel_rfl) | (rw [if_neg (by decide +kernel)]; exact ⟨rfl, rfl⟩))
    (fun os started H enc _ => nil_lifted os started H enc)
#print axioms disknil_proved
end Go.Proofs.Ytkhalpmmdlppkaa
