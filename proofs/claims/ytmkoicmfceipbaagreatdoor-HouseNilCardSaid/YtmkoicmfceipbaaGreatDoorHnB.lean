/-
  HouseNil: THE ROW AND THE TIED CARD: a nil house answers that it is nil, and nothing is there. (The listed package variables are laid in the witness; the call reads none of them.)
-/
import Derived.Test.YtmkoicmfceipbaaGreatDoorHnA
import Derived.Test.YtmkoicmfceipbaaGreatDoorCards
import Derived.Test.YtmkoicmfceipbaaGreatDoorTie
import Derived.ProofKit
import Derived.LaidMore
import Derived.Lay
import Derived.SevenTiedAt
import Derived.Stop.Joined
namespace Go.Proofs.YtmkoicmfceipbaaGreatDoor
set_option linter.unusedSimpArgs false
set_option linter.unusedVariables false
open Go.Vm

theorem housenil_own : ownKnob Tryz.prog.godebug = none := by kernel_rfl
theorem housenil_laid : laidOutB Tryz.prog = true := by kernel_rfl

set_option maxRecDepth 100000 in
theorem housenil_lifted (os : Os) (started : os.Started) (H : Type) (enc : TypeId × Value → H) :
    ReturnsInHanded {} Tryz.checked os 3 .any (fun w args => (Rows.houseNilSpec.pre enc Tryz.prog Tryz.f3 Rows.houseNilRow.domain false w args ∧ laidMetH Tryz.prog Rows.houseNilRow.laid w) ∧ sizedMet enc Tryz.prog Tryz.f3 (OpenSpec.ofChange Rows.houseNilSpec) false w args)
      (Rows.houseNilSpec.post enc Tryz.prog Tryz.f3 false true false false) := by
  refine returnsInHanded_of_change_and (C := Tryz.checked) (X := fun w _ => laidMetH Tryz.prog Rows.houseNilRow.laid w) (fun _ _ _ hh h => h.of_heap hh) housenil_own started (by kernel_rfl) Tryz.func3
    (ChangeSpec.witness_shaped (enc := enc) (C := Tryz.checked) (os := os) (X := fun w _ => laidMetH Tryz.prog Rows.houseNilRow.laid w) false (World.laidAll Tryz.prog os Rows.houseNilRow.laid)
      #[.agg #[.int .i64 0, .string .empty, .string .empty, .slice none 0 0, .string .empty, .slice none 0 0, .int .u32 0, .slice none 0 0, .int .i64 0]] 8 (World.laidAll_os _ _ _)
      (World.shaped_of_ZipB (by kernel_rfl) (by kernel_rfl)) (by kernel_rfl) (by kernel_rfl) (by kernel_rfl)
      (by rw [MakeChecks.laidMetH_plain _ _ _ (by kernel_rfl)]; exact laidMet_laidAll _ (by kernel_rfl) (by kernel_rfl))) ?_
  intro W base args ds gs before hval hW _ hsz _ _
  exact contract hn_sound housenil_laid (by kernel_rfl) (bt := 4) (by kernel_rfl) (by kernel_rfl) (shs := [.st [.int .i64, .str, .str, .sl 16 .str, .str, .sl 1 (.int .u8), .int .u32, .sl 4 (.int .u32), .int .i64]]) (by kernel_rfl)
    ⟨rfl, fun H ds hl => by
      match ds, hl with
      | [a], _ => exact ⟨rfl, rfl, rfl⟩⟩ W base args ds gs before hn_law hval hW hsz

theorem housenil_row : Rows.HouseNilSaid :=
  OpenClaim.holds_of_wide 3 Tryz.f3 rfl rfl rfl rfl rfl rfl rfl ⟨rfl, rfl, rfl, rfl, rfl⟩ rfl rfl rfl rfl rfl (by kernel_rfl) Tryz.func3 (by kernel_rfl)
    (of_decide_eq_true (by kernel_rfl)) (by unfold Func.isWrapper; first | (rw [if_pos (by decide +kernel)]; kernel_rfl) | (rw [if_neg (by decide +kernel)]; exact ⟨rfl, rfl⟩))
    (fun os started H enc _ => housenil_lifted os started H enc)

theorem housenil_proved : Rows.HouseNilCardSaid :=
  Claim7.holds_tied_plain_at .later [] [.data, .data, .data, .data, .sentinel, .sentinel, .data, .data, .pinned, .pinned] true (true, "58c9bf1cf178c66911373048fd07c421dee64f01fdc592db5d6cc2d8f2319981") true housenil_row (fun _ h => by cases h) (by kernel_rfl) (fun _ h => by cases h) houseNil_row_tie rfl ⟨rfl, rfl⟩ (by kernel_rfl) rfl
    (fun f fn hf hfn => by
      obtain rfl : f = 3 := Option.some.inj ((show Tryz.prog.funcNamed "cubby/cubbylaw18.HouseNil" = some 3 by kernel_rfl).symm.trans hf) |>.symm
      obtain rfl : fn = Tryz.f3 := (Option.some.inj (Tryz.func3.symm.trans hfn)).symm
      exact ⟨by kernel_rfl, fun j t ht => by
        rw [Tryz.params3] at ht
        have hm : t ∈ [27] := by simpa using Array.mem_of_getElem? ht
        have hall : ([27].all fun u => !Tryz.prog.wantsStandIn u) = true := by kernel_rfl
        exact (show Tryz.prog.wantsStandIn t = false by simpa using List.all_eq_true.1 hall t hm)⟩)
    (by kernel_rfl)
#print axioms housenil_proved
end Go.Proofs.YtmkoicmfceipbaaGreatDoor
