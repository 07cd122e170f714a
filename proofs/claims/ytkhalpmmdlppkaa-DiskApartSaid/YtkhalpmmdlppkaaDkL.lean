/-
  THE ROWS: what all of them need of the program; bytes that are handed in.
-/
import Derived.Test.YtkhalpmmdlppkaaTabD
namespace Go.Proofs.Ytkhalpmmdlppkaa
set_option linter.unusedSimpArgs false
set_option linter.unusedVariables false
open Go.Vm

theorem bytes_of {by_ : Nat} {cs : List AV} (h : Sh.ok (.sl by_ (.int .u8)) cs) : ∃ b : List UInt8, cs = [.isl false (bs b) b.length none] ∧ b.length * by_ ≤ reachBytes := by
  obtain ⟨rows, h1, h2, _, rfl⟩ := h
  have key : ∀ rows : List (List AV), (∀ r, r ∈ rows → Sh.ok (.int .u8) r) → ∃ b : List UInt8, rows.flatten = bs b ∧ b.length = rows.length := by
    intro rows
    induction rows with
    | nil => intro _; exact ⟨[], rfl, rfl⟩
    | cons r rows ih =>
      intro h
      obtain ⟨b, hb, hl⟩ := ih fun x hx => h x (by simp [hx])
      obtain ⟨n, rfl, h1, h2⟩ := h r (by simp)
      have e1 : IntKind.u8.min = 0 := rfl
      have e2 : IntKind.u8.max = 255 := rfl
      refine ⟨UInt8.ofNat n.toNat :: b, ?_, by simp [hl]⟩
      rw [List.flatten_cons, hb]
      have : ((UInt8.ofNat n.toNat).toNat : Int) = n := by
        rw [UInt8.toNat_ofNat']; omega
      simp only [bs, List.map_cons, this]; rfl
  obtain ⟨b, hb, hl⟩ := key rows h1
  exact ⟨b, by rw [hb, hl], by rw [hl]; exact h2⟩

theorem own : ownKnob Try.prog.godebug = none := by kernel_rfl
theorem laidOut : laidOutB Try.prog = true := by kernel_rfl
end Go.Proofs.Ytkhalpmmdlppkaa
