/-
  DiskSafe: THE ROW.
-/
import Derived.Test.YtkhalpmmdlppkaaDkJ
namespace Go.Proofs.Ytkhalpmmdlppkaa
set_option linter.unusedSimpArgs false
set_option linter.unusedVariables false
open Go.Vm

theorem bytes_of {by_ : Nat} {cs : List AV} (h : Sh.ok (.sl by_ (.int .u8)) cs) : ∃ b : List UInt8, cs = [.isl false (bs b) b.length none] ∧ b.length * by_ ≤ reachBytes := by
  obtain ⟨rows, h1, h2, _, rfl⟩ := h
  have key : ∀ rows : List (List AV), (∀ r, r ∈ rows → Sh.ok (.int .u8) r) → ∃ b : List UInt8, rows.flatten = bs b ∧ b.length = rows.length := by
    intro rows
    induction rows with
    | nil => intro _; exact ⟨[], rfl, rfl⟩
    | cons r rows ih =>
      intro h
      obtain ⟨b, hb, hl⟩ := ih fun x hx => h x (by simp [hx])
      obtain ⟨n, rfl, h1, h2⟩ := h r (by simp)
      have e1 : IntKind.u8.min = 0 := rfl
      have e2 : IntKind.u8.max = 255 := rfl
      refine ⟨UInt8.ofNat n.toNat :: b, ?_, by simp [hl]⟩
      rw [List.flatten_cons, hb]
      have : ((UInt8.ofNat n.toNat).toNat : Int) = n := by
        rw [UInt8.toNat_ofNat']; omega
      simp only [bs, List.map_cons, this]; rfl
  obtain ⟨b, hb, hl⟩ := key rows h1
  exact ⟨b, by rw [hb, hl], by rw [hl]; exact h2⟩

theorem safe_law : ∀ xs, ArgsOk [.sl 1 (.int .u8), .sl 1 (.int .u8), .int .i64, .int .i64] xs → ev (tab hsD) 3 xs emptySt = some (.bool true, emptySt) := by
  rintro xs ⟨c1, r1, h1, ⟨c2, r2, h2, ⟨c3, r3, ⟨x, rfl, _⟩, ⟨c4, r4, ⟨y, rfl, _⟩, rfl, rfl⟩, rfl⟩, rfl⟩, rfl⟩
  obtain ⟨a, rfl, ha⟩ := bytes_of h1
  obtain ⟨b, rfl, hb⟩ := bytes_of h2
  have hr : reachBytes < 2 ^ 47 := reachBytes_lt
  exact pure_ev (tab3 hsD) (snaps_cons rfl (snaps_cons rfl (snaps_cons rfl (snaps_cons rfl (snaps_nil _))))) (safe_pure (by omega) (by omega) x y)

theorem own : ownKnob Try.prog.godebug = none := by kernel_rfl
theorem laidOut : laidOutB Try.prog = true := by kernel_rfl

set_option maxRecDepth 100000 in
theorem safe_lifted (os : Os) (started : os.Started) (H : Type) (enc : TypeId × Value → H) :
    ReturnsInHanded {} Try.checked os 3 .any (Rows.diskSafeSpec.pre6 enc Try.prog Try.f3 Rows.diskSafeRow.domain false) (Rows.diskSafeSpec.post enc Try.prog Try.f3 false true false false) := by
  refine returnsInHanded_of_change_sized (C := Try.checked) own started (by kernel_rfl) Try.func3
    (ChangeSpec.witness6 (enc := enc) (C := Try.checked) false ⟨#[], #[.slice none 0 0, .slice none 0 0, .int .i64 0, .int .i64 0], []⟩ 8 (by kernel_rfl) (by kernel_rfl) (by kernel_rfl) (by kernel_rfl)) ?_
  intro W base args ds gs before hval hW _ hsz _
  exact contract (tab_sound hsD) laidOut (by kernel_rfl) (bt := 4) (by kernel_rfl) (by kernel_rfl) (shs := [.sl 1 (.int .u8), .sl 1 (.int .u8), .int .i64, .int .i64]) (by kernel_rfl)
    ⟨rfl, fun H ds hl => by
      match ds, hl with
      | [a, b, c, d], _ => exact ⟨rfl, rfl, rfl⟩⟩ W base args ds gs before safe_law hval hW hsz

theorem disksafe_proved : Rows.DiskSafeSaid :=
  OpenClaim.holds_of_wide 3 Try.f3 rfl rfl rfl rfl rfl rfl rfl ⟨rfl, rfl, rfl, rfl, rfl⟩ rfl rfl rfl rfl rfl (by kernel_rfl) Try.func3 (by kernel_rfl)
    (of_decide_eq_true (by kernel_rfl)) (by unfold Func.isWrapper; first | (rw [if_pos (by decide +kernel)]; kernel_rfl) | (rw [if_neg (by decide +kernel)]; exact ⟨rfl, rfl⟩))
    (fun os started H enc _ => safe_lifted os started H enc)
#print axioms disksafe_proved
end Go.Proofs.Ytkhalpmmdlppkaa
