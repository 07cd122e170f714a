/-
  THE DISK's LAWS: how each function is called there.
-/
import Derived.Test.YtkhalpmmdlppkaaDkH
namespace Go.Proofs.Ytkhalpmmdlppkaa
set_option linter.unusedSimpArgs false
set_option linter.unusedVariables false
open Go.Vm

def hsD : FuncId → Hint
  | 15 => .mut [] (some (some 0))
  | 17 => .mut [(0, [])] none
  | 19 => .mut [(0, [])] none
  | 21 => .mut [(0, [])] none
  | 22 => .mut [(0, [])] none
  | 29 => .mut [(0, [])] none
  | 34 => .mut [(0, [])] (some none)
  | 69 => .raw
  | 73 => .raw
  | 74 => .raw
  | _ => .pure
theorem diskH : DiskH hsD := ⟨rfl, rfl, rfl, rfl, rfl, rfl, rfl, rfl, rfl, rfl, rfl, rfl, rfl, rfl, rfl, rfl⟩

theorem awake_ev (σ : St) : ev (tab hsD) 16 [] σ = some (.bool true, σ) := pure_ev (tab16 hsD) (snaps_nil σ) (awake_pure diskH)

section
variable {hs : FuncId → Hint} (H : DiskH hs) {σ : St} {o : Nat} {K : List UInt8} {n : Nat} {w : W}
include H
theorem write0 (D : DiskO σ o K n w false 0) (hwl : w.length < 2 ^ 36) {a : Nat} (ha : a < n) {b : List UInt8} {f : Bool} {c : Option Nat} (hb : b.length = 64) :
    ∃ σ', ev (tab hs) 17 [.ptr ⟨o, 0, 0⟩ 0, .int .i64 a, .isl f (bs b) 64 c] σ = some (.int .i64 0, σ') ∧ DiskO σ' o K n (w ++ [(a, b)]) false 0 ∧ Kept σ σ' o := write_ev H D hwl ha hb rfl
theorem flush0 (D : DiskO σ o K n w false 0) (hwl : w.length < 2 ^ 36) : ∃ σ', ev (tab hs) 19 [.ptr ⟨o, 0, 0⟩ 0] σ = some (.int .i64 0, σ') ∧ DiskO σ' o (keepAll K w) n [] false 0 ∧ Kept σ σ' o := flush_ev H D hwl rfl
theorem start1 {armed : Int} (D : DiskO σ o K n w true armed) : ∃ σ', ev (tab hs) 22 [.ptr ⟨o, 0, 0⟩ 0] σ = some (.int .i64 0, σ') ∧ DiskO σ' o K n [] false 0 ∧ Kept σ σ' o := start_ev H D
end

theorem seq_d3_8 : drawSeq (tab hsD) d3_8 = true := rfl
end Go.Proofs.Ytkhalpmmdlppkaa
