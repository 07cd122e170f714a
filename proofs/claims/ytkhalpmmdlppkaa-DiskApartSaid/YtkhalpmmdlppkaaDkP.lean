/-
  DiskApart: THE ROW.
-/
import Derived.Test.YtkhalpmmdlppkaaDkO
import Derived.Test.YtkhalpmmdlppkaaDkL
namespace Go.Proofs.Ytkhalpmmdlppkaa
set_option linter.unusedSimpArgs false
set_option linter.unusedVariables false
open Go.Vm

theorem apart_law : ∀ xs, ArgsOk [.sl 1 (.int .u8), .sl 1 (.int .u8), .sl 1 (.int .u8), .int .i64, .int .i64] xs → ev (tab hsD) 4 xs emptySt = some (.bool true, emptySt) := by
  rintro xs ⟨c1, r1, h1, ⟨c2, r2, h2, ⟨c3, r3, h3, ⟨c4, r4, ⟨x, rfl, _⟩, ⟨c5, r5, ⟨y, rfl, _⟩, rfl, rfl⟩, rfl⟩, rfl⟩, rfl⟩, rfl⟩
  obtain ⟨a, rfl, ha⟩ := bytes_of h1
  obtain ⟨b, rfl, hb⟩ := bytes_of h2
  obtain ⟨c, rfl, hc⟩ := bytes_of h3
  have hr : reachBytes < 2 ^ 47 := reachBytes_lt
  exact pure_ev (tab4 hsD) (snaps_cons rfl (snaps_cons rfl (snaps_cons rfl (snaps_cons rfl (snaps_cons rfl (snaps_nil _)))))) (apart_pure (by omega) (by omega) (by omega) x y)

set_option maxRecDepth 100000 in
theorem apart_lifted (os : Os) (started : os.Started) (H : Type) (enc : TypeId × Value → H) :
    ReturnsInHanded {} Try.checked os 4 .any (Rows.diskApartSpec.pre6 enc Try.prog Try.f4 Rows.diskApartRow.domain false) (Rows.diskApartSpec.post enc Try.prog Try.f4 false true false false) := by
  refine returnsInHanded_of_change_sized (C := Try.checked) own started (by kernel_rfl) Try.func4
    (ChangeSpec.witness6 (enc := enc) (C := Try.checked) false ⟨#[], #[.slice none 0 0, .slice none 0 0, .slice none 0 0, .int .i64 0, .int .i64 0], []⟩ 8 (by kernel_rfl) (by kernel_rfl) (by kernel_rfl) (by kernel_rfl)) ?_
  intro W base args ds gs before hval hW _ hsz _
  exact contract (tab_sound hsD) laidOut (by kernel_rfl) (bt := 4) (by kernel_rfl) (by kernel_rfl) (shs := [.sl 1 (.int .u8), .sl 1 (.int .u8), .sl 1 (.int .u8), .int .i64, .int .i64]) (by kernel_rfl)
    ⟨rfl, fun H ds hl => by
      match ds, hl with
      | [a, b, c, d, e], _ => exact ⟨rfl, rfl, rfl⟩⟩ W base args ds gs before apart_law hval hW hsz

theorem diskapart_proved : Rows.DiskApartSaid :=
  OpenClaim.holds_of_wide 4 Try.f4 rfl rfl rfl rfl rfl rfl rfl ⟨rfl, rfl, rfl, rfl, rfl⟩ rfl rfl rfl rfl rfl (by kernel_rfl) Try.func4 (by kernel_rfl)
    (of_decide_eq_true (by kernel_rfl)) (by unfold Func.isWrapper; first | (rw [if_pos (by decide +kernel)]; kernel_rfl) | (rw [if_neg (by decide +kernel)]; exact ⟨rfl, rfl⟩))
    (fun os started H enc _ => apart_lifted os started H enc)
#print axioms diskapart_proved
end Go.Proofs.Ytkhalpmmdlppkaa
