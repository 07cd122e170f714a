/-
  No cell of these rows narrows 'for every input' (looked for: loops, veiled, ifaces, maps, wideKeys, modest, calm, conditions, laid).
  DERIVED. THE GIVEN ROWS OF THIS SEAT. 12 by the template 'for every input the law returns true; each argument reads behind the call as it read before'; 0 by the template 'total and deterministic' (their statements: YtkhalpmmdlppkaaTotals.lean).
  GIVEN WITH THE SEED: the statements are not yours to turn. If you find one false, say at which input.
  Laid BY PROGRAM, IN A SANDBOX (cutbox-rows.mjs): the forced cells as the released guide's own fill.sh prints them over the translation 970435b813388f71… (all of the seat's roots in one cut). By AI agents, Wed Nov 11 2026. No macro, syntax, notation, axiom, sorry.
-/
import Derived.Test.YtkhalpmmdlppkaaChecked
import GoSem.Claim
import GoSem.ClaimJoined
import GoSem.ClaimMapViews
import Derived.JoinedTies
import Derived.KernelRfl
namespace Go.Proofs.Ytkhalpmmdlppkaa
/- THE CELL 'sum', in the pinned program and in every row, IS THE sha256 OF THE DUMP (.gsa) THAT YtkhalpmmdlppkaaProg.lean LOADS. Nothing in Lean hashes anything: it is a label: what it is worth is what the hold of that sum in a sandbox is worth. -/
noncomputable def Try.pinned : Pinned := { name := "ytkhalpmmdlppkaa", sum := "970435b813388f7160847bf2fa684d0ca231c4518c691b92dbc1953f8fcad761", checked := Try.checked }
namespace Rows
def none {H : Type} : Left H := { results := [], args := [] }

/-- 'cubbylaw02.DiskSafe': WHATEVER THE INPUT: true; the input reads as it did. -/
def diskSafeSpec : ChangeSpec := { name := "diskSafe", fn := fun _ => fun
  | [d1, d2, d3, d4] => { results := [.lit (.bool true)], args := [d1, d2, d3, d4] }
  | _ => none }
def diskSafeRow : OpenClaim := { program := "ytkhalpmmdlppkaa", sum := "970435b813388f7160847bf2fa684d0ca231c4518c691b92dbc1953f8fcad761", func := "cubby/cubbylaw02.DiskSafe", spec := "diskSafe", plainKeys := false, apart := false }
def DiskSafeSaid : Prop := diskSafeRow.holds Try.pinned (OpenSpec.ofChange diskSafeSpec)

/-- ITS FALSE NEIGHBOUR: 'it returns false'. Refute it at one input. -/
def diskSafeWrong : ChangeSpec := { name := "diskSafe", fn := fun _ => fun
  | [d1, d2, d3, d4] => { results := [.lit (.bool false)], args := [d1, d2, d3, d4] }
  | _ => none }
def DiskSafeWrongFalsely : Prop := diskSafeRow.holds Try.pinned (OpenSpec.ofChange diskSafeWrong)

/-- 'cubbylaw02.DiskApart': WHATEVER THE INPUT: true; the input reads as it did. -/
def diskApartSpec : ChangeSpec := { name := "diskApart", fn := fun _ => fun
  | [d1, d2, d3, d4, d5] => { results := [.lit (.bool true)], args := [d1, d2, d3, d4, d5] }
  | _ => none }
def diskApartRow : OpenClaim := { program := "ytkhalpmmdlppkaa", sum := "970435b813388f7160847bf2fa684d0ca231c4518c691b92dbc1953f8fcad761", func := "cubby/cubbylaw02.DiskApart", spec := "diskApart", plainKeys := false, apart := false }
def DiskApartSaid : Prop := diskApartRow.holds Try.pinned (OpenSpec.ofChange diskApartSpec)

/-- ITS FALSE NEIGHBOUR: 'it returns false'. Refute it at one input. -/
def diskApartWrong : ChangeSpec := { name := "diskApart", fn := fun _ => fun
  | [d1, d2, d3, d4, d5] => { results := [.lit (.bool false)], args := [d1, d2, d3, d4, d5] }
  | _ => none }
def DiskApartWrongFalsely : Prop := diskApartRow.holds Try.pinned (OpenSpec.ofChange diskApartWrong)

/-- 'cubbylaw02.DiskPlays': WHATEVER THE INPUT: true; the input reads as it did. -/
def diskPlaysSpec : ChangeSpec := { name := "diskPlays", fn := fun _ => fun
  | [d1, d2] => { results := [.lit (.bool true)], args := [d1, d2] }
  | _ => none }
def diskPlaysRow : OpenClaim := { program := "ytkhalpmmdlppkaa", sum := "970435b813388f7160847bf2fa684d0ca231c4518c691b92dbc1953f8fcad761", func := "cubby/cubbylaw02.DiskPlays", spec := "diskPlays", unfollowed := true, recurses := true, plainKeys := false, apart := false }
def DiskPlaysSaid : Prop := diskPlaysRow.holds Try.pinned (OpenSpec.ofChange diskPlaysSpec)

/-- ITS FALSE NEIGHBOUR: 'it returns false'. Refute it at one input. -/
def diskPlaysWrong : ChangeSpec := { name := "diskPlays", fn := fun _ => fun
  | [d1, d2] => { results := [.lit (.bool false)], args := [d1, d2] }
  | _ => none }
def DiskPlaysWrongFalsely : Prop := diskPlaysRow.holds Try.pinned (OpenSpec.ofChange diskPlaysWrong)

/-- 'cubbylaw02.DiskNil': WHATEVER THE INPUT: true; the input reads as it did. -/
def diskNilSpec : ChangeSpec := { name := "diskNil", fn := fun _ => fun
  | [d1, d2, d3] => { results := [.lit (.bool true)], args := [d1, d2, d3] }
  | _ => none }
def diskNilRow : OpenClaim := { program := "ytkhalpmmdlppkaa", sum := "970435b813388f7160847bf2fa684d0ca231c4518c691b92dbc1953f8fcad761", func := "cubby/cubbylaw02.DiskNil", spec := "diskNil", plainKeys := false, apart := false }
def DiskNilSaid : Prop := diskNilRow.holds Try.pinned (OpenSpec.ofChange diskNilSpec)

/-- ITS FALSE NEIGHBOUR: 'it returns false'. Refute it at one input. -/
def diskNilWrong : ChangeSpec := { name := "diskNil", fn := fun _ => fun
  | [d1, d2, d3] => { results := [.lit (.bool false)], args := [d1, d2, d3] }
  | _ => none }
def DiskNilWrongFalsely : Prop := diskNilRow.holds Try.pinned (OpenSpec.ofChange diskNilWrong)

/-- 'cubbylaw20.ShelfKeeps': WHATEVER THE INPUT: true; the input reads as it did. -/
def shelfKeepsSpec : ChangeSpec := { name := "shelfKeeps", fn := fun _ => fun
  | [d1, d2] => { results := [.lit (.bool true)], args := [d1, d2] }
  | _ => none }
def shelfKeepsRow : OpenClaim := { program := "ytkhalpmmdlppkaa", sum := "970435b813388f7160847bf2fa684d0ca231c4518c691b92dbc1953f8fcad761", func := "cubby/cubbylaw20.ShelfKeeps", spec := "shelfKeeps", unfollowed := true, recurses := true, plainKeys := false, apart := false }
def ShelfKeepsSaid : Prop := shelfKeepsRow.holds Try.pinned (OpenSpec.ofChange shelfKeepsSpec)

/-- ITS FALSE NEIGHBOUR: 'it returns false'. Refute it at one input. -/
def shelfKeepsWrong : ChangeSpec := { name := "shelfKeeps", fn := fun _ => fun
  | [d1, d2] => { results := [.lit (.bool false)], args := [d1, d2] }
  | _ => none }
def ShelfKeepsWrongFalsely : Prop := shelfKeepsRow.holds Try.pinned (OpenSpec.ofChange shelfKeepsWrong)

/-- 'cubbylaw20.ShelfOrder': WHATEVER THE INPUT: true; the input reads as it did. -/
def shelfOrderSpec : ChangeSpec := { name := "shelfOrder", fn := fun _ => fun
  | [d1, d2, d3] => { results := [.lit (.bool true)], args := [d1, d2, d3] }
  | _ => none }
def shelfOrderRow : OpenClaim := { program := "ytkhalpmmdlppkaa", sum := "970435b813388f7160847bf2fa684d0ca231c4518c691b92dbc1953f8fcad761", func := "cubby/cubbylaw20.ShelfOrder", spec := "shelfOrder", unfollowed := true, recurses := true, plainKeys := false, apart := false }
def ShelfOrderSaid : Prop := shelfOrderRow.holds Try.pinned (OpenSpec.ofChange shelfOrderSpec)

/-- ITS FALSE NEIGHBOUR: 'it returns false'. Refute it at one input. -/
def shelfOrderWrong : ChangeSpec := { name := "shelfOrder", fn := fun _ => fun
  | [d1, d2, d3] => { results := [.lit (.bool false)], args := [d1, d2, d3] }
  | _ => none }
def ShelfOrderWrongFalsely : Prop := shelfOrderRow.holds Try.pinned (OpenSpec.ofChange shelfOrderWrong)

/-- 'cubbylaw20.ShelfPlays': WHATEVER THE INPUT: true; the input reads as it did. -/
def shelfPlaysSpec : ChangeSpec := { name := "shelfPlays", fn := fun _ => fun
  | [d1, d2] => { results := [.lit (.bool true)], args := [d1, d2] }
  | _ => none }
def shelfPlaysRow : OpenClaim := { program := "ytkhalpmmdlppkaa", sum := "970435b813388f7160847bf2fa684d0ca231c4518c691b92dbc1953f8fcad761", func := "cubby/cubbylaw20.ShelfPlays", spec := "shelfPlays", unfollowed := true, recurses := true, plainKeys := false, apart := false }
def ShelfPlaysSaid : Prop := shelfPlaysRow.holds Try.pinned (OpenSpec.ofChange shelfPlaysSpec)

/-- ITS FALSE NEIGHBOUR: 'it returns false'. Refute it at one input. -/
def shelfPlaysWrong : ChangeSpec := { name := "shelfPlays", fn := fun _ => fun
  | [d1, d2] => { results := [.lit (.bool false)], args := [d1, d2] }
  | _ => none }
def ShelfPlaysWrongFalsely : Prop := shelfPlaysRow.holds Try.pinned (OpenSpec.ofChange shelfPlaysWrong)

/-- 'cubbylaw20.ShelfNil': WHATEVER THE INPUT: true; the input reads as it did. -/
def shelfNilSpec : ChangeSpec := { name := "shelfNil", fn := fun _ => fun
  | [d1, d2, d3, d4] => { results := [.lit (.bool true)], args := [d1, d2, d3, d4] }
  | _ => none }
def shelfNilRow : OpenClaim := { program := "ytkhalpmmdlppkaa", sum := "970435b813388f7160847bf2fa684d0ca231c4518c691b92dbc1953f8fcad761", func := "cubby/cubbylaw20.ShelfNil", spec := "shelfNil", unfollowed := true, recurses := true, plainKeys := false, apart := false }
def ShelfNilSaid : Prop := shelfNilRow.holds Try.pinned (OpenSpec.ofChange shelfNilSpec)

/-- ITS FALSE NEIGHBOUR: 'it returns false'. Refute it at one input. -/
def shelfNilWrong : ChangeSpec := { name := "shelfNil", fn := fun _ => fun
  | [d1, d2, d3, d4] => { results := [.lit (.bool false)], args := [d1, d2, d3, d4] }
  | _ => none }
def ShelfNilWrongFalsely : Prop := shelfNilRow.holds Try.pinned (OpenSpec.ofChange shelfNilWrong)

/-- 'cubbylaw03.WalRound': WHATEVER THE INPUT: true; the input reads as it did. -/
def walRoundSpec : ChangeSpec := { name := "walRound", fn := fun _ => fun
  | [d1, d2] => { results := [.lit (.bool true)], args := [d1, d2] }
  | _ => none }
def walRoundRow : OpenClaim := { program := "ytkhalpmmdlppkaa", sum := "970435b813388f7160847bf2fa684d0ca231c4518c691b92dbc1953f8fcad761", func := "cubby/cubbylaw03.WalRound", spec := "walRound", unfollowed := true, recurses := true, plainKeys := false, apart := false }
def WalRoundSaid : Prop := walRoundRow.holds Try.pinned (OpenSpec.ofChange walRoundSpec)

/-- ITS FALSE NEIGHBOUR: 'it returns false'. Refute it at one input. -/
def walRoundWrong : ChangeSpec := { name := "walRound", fn := fun _ => fun
  | [d1, d2] => { results := [.lit (.bool false)], args := [d1, d2] }
  | _ => none }
def WalRoundWrongFalsely : Prop := walRoundRow.holds Try.pinned (OpenSpec.ofChange walRoundWrong)

/-- 'cubbylaw03.WalNil': WHATEVER THE INPUT: true; the input reads as it did. -/
def walNilSpec : ChangeSpec := { name := "walNil", fn := fun _ => fun
  | [d1, d2] => { results := [.lit (.bool true)], args := [d1, d2] }
  | _ => none }
def walNilRow : OpenClaim := { program := "ytkhalpmmdlppkaa", sum := "970435b813388f7160847bf2fa684d0ca231c4518c691b92dbc1953f8fcad761", func := "cubby/cubbylaw03.WalNil", spec := "walNil", unfollowed := true, recurses := true, plainKeys := false, apart := false }
def WalNilSaid : Prop := walNilRow.holds Try.pinned (OpenSpec.ofChange walNilSpec)

/-- ITS FALSE NEIGHBOUR: 'it returns false'. Refute it at one input. -/
def walNilWrong : ChangeSpec := { name := "walNil", fn := fun _ => fun
  | [d1, d2] => { results := [.lit (.bool false)], args := [d1, d2] }
  | _ => none }
def WalNilWrongFalsely : Prop := walNilRow.holds Try.pinned (OpenSpec.ofChange walNilWrong)

/-- 'cubbylaw03.WalSafe': WHATEVER THE INPUT: true; the input reads as it did. -/
def walSafeSpec : ChangeSpec := { name := "walSafe", fn := fun _ => fun
  | [d1, d2, d3] => { results := [.lit (.bool true)], args := [d1, d2, d3] }
  | _ => none }
def walSafeRow : OpenClaim := { program := "ytkhalpmmdlppkaa", sum := "970435b813388f7160847bf2fa684d0ca231c4518c691b92dbc1953f8fcad761", func := "cubby/cubbylaw03.WalSafe", spec := "walSafe", unfollowed := true, recurses := true, plainKeys := false, apart := false }
def WalSafeSaid : Prop := walSafeRow.holds Try.pinned (OpenSpec.ofChange walSafeSpec)

/-- ITS FALSE NEIGHBOUR: 'it returns false'. Refute it at one input. -/
def walSafeWrong : ChangeSpec := { name := "walSafe", fn := fun _ => fun
  | [d1, d2, d3] => { results := [.lit (.bool false)], args := [d1, d2, d3] }
  | _ => none }
def WalSafeWrongFalsely : Prop := walSafeRow.holds Try.pinned (OpenSpec.ofChange walSafeWrong)

/-- 'cubbylaw03.WalPlays': WHATEVER THE INPUT: true; the input reads as it did. -/
def walPlaysSpec : ChangeSpec := { name := "walPlays", fn := fun _ => fun
  | [d1, d2] => { results := [.lit (.bool true)], args := [d1, d2] }
  | _ => none }
def walPlaysRow : OpenClaim := { program := "ytkhalpmmdlppkaa", sum := "970435b813388f7160847bf2fa684d0ca231c4518c691b92dbc1953f8fcad761", func := "cubby/cubbylaw03.WalPlays", spec := "walPlays", unfollowed := true, recurses := true, plainKeys := false, apart := false }
def WalPlaysSaid : Prop := walPlaysRow.holds Try.pinned (OpenSpec.ofChange walPlaysSpec)

/-- ITS FALSE NEIGHBOUR: 'it returns false'. Refute it at one input. -/
def walPlaysWrong : ChangeSpec := { name := "walPlays", fn := fun _ => fun
  | [d1, d2] => { results := [.lit (.bool false)], args := [d1, d2] }
  | _ => none }
def WalPlaysWrongFalsely : Prop := walPlaysRow.holds Try.pinned (OpenSpec.ofChange walPlaysWrong)

/- THE SECOND FORM. 'bulk': how many values and letters a reading holds, each counted each time it is reached (what is shared counts as often as it is met; a slice's spare places count too). A statement '..UptoSaid' is the law's where the arguments, and the package variables that the reading takes, are together of bulk at most 1048576: NARROWER than '..Said'. Prove '..Said' where nothing that the law and all that it calls make is longer than what came in: it says more and counts as full. Else prove '..UptoSaid'. A law counts once. -/
mutual
def uptoBulk {H : Type} : DataW H → Nat
  | .lit (.string bytes) => bytes.length + 1
  | .lit _ => 1
  | .nil => 1
  | .ptr d => uptoBulk d + 1
  | .slice elems spare => uptoBulkAll elems + uptoBulkAll spare + 1
  | .agg parts => uptoBulkAll parts + 1
  | .iface _ d => uptoBulk d + 1
  | .map entries => uptoBulkEntries entries + 1
  | .held _ => 1
def uptoBulkAll {H : Type} : List (DataW H) → Nat
  | [] => 0
  | d :: r => uptoBulk d + uptoBulkAll r
def uptoBulkEntries {H : Type} : List (Lit × DataW H) → Nat
  | [] => 0
  | x :: r => uptoBulkEntry x + uptoBulkEntries r
def uptoBulkEntry {H : Type} : Lit × DataW H → Nat
  | (.string bytes, d) => bytes.length + uptoBulk d + 1
  | (_, d) => uptoBulk d + 1
 end
def uptoSmall : (H : Type) → List (DataW H) → Bool := fun _ ds => decide (uptoBulkAll ds ≤ 1048576)
def OpenSpec.upto (s : _root_.Go.ChangeSpec) : _root_.Go.OpenSpec := { _root_.Go.OpenSpec.ofChange s with cond := some uptoSmall }

/-- 'cubbylaw02.DiskSafe', WHERE WHAT IT READS IS OF BULK AT MOST 1048576: true; the input reads as it did. -/
def diskSafeUptoRow : OpenClaim := { program := "ytkhalpmmdlppkaa", sum := "970435b813388f7160847bf2fa684d0ca231c4518c691b92dbc1953f8fcad761", func := "cubby/cubbylaw02.DiskSafe", spec := "diskSafe", plainKeys := false, apart := false, narrowed := true }
def DiskSafeUptoSaid : Prop := diskSafeUptoRow.holds Try.pinned (OpenSpec.upto diskSafeSpec)

/-- 'cubbylaw02.DiskApart', WHERE WHAT IT READS IS OF BULK AT MOST 1048576: true; the input reads as it did. -/
def diskApartUptoRow : OpenClaim := { program := "ytkhalpmmdlppkaa", sum := "970435b813388f7160847bf2fa684d0ca231c4518c691b92dbc1953f8fcad761", func := "cubby/cubbylaw02.DiskApart", spec := "diskApart", plainKeys := false, apart := false, narrowed := true }
def DiskApartUptoSaid : Prop := diskApartUptoRow.holds Try.pinned (OpenSpec.upto diskApartSpec)

/-- 'cubbylaw02.DiskPlays', WHERE WHAT IT READS IS OF BULK AT MOST 1048576: true; the input reads as it did. -/
def diskPlaysUptoRow : OpenClaim := { program := "ytkhalpmmdlppkaa", sum := "970435b813388f7160847bf2fa684d0ca231c4518c691b92dbc1953f8fcad761", func := "cubby/cubbylaw02.DiskPlays", spec := "diskPlays", unfollowed := true, recurses := true, plainKeys := false, apart := false, narrowed := true }
def DiskPlaysUptoSaid : Prop := diskPlaysUptoRow.holds Try.pinned (OpenSpec.upto diskPlaysSpec)

/-- 'cubbylaw02.DiskNil', WHERE WHAT IT READS IS OF BULK AT MOST 1048576: true; the input reads as it did. -/
def diskNilUptoRow : OpenClaim := { program := "ytkhalpmmdlppkaa", sum := "970435b813388f7160847bf2fa684d0ca231c4518c691b92dbc1953f8fcad761", func := "cubby/cubbylaw02.DiskNil", spec := "diskNil", plainKeys := false, apart := false, narrowed := true }
def DiskNilUptoSaid : Prop := diskNilUptoRow.holds Try.pinned (OpenSpec.upto diskNilSpec)

/-- 'cubbylaw20.ShelfKeeps', WHERE WHAT IT READS IS OF BULK AT MOST 1048576: true; the input reads as it did. -/
def shelfKeepsUptoRow : OpenClaim := { program := "ytkhalpmmdlppkaa", sum := "970435b813388f7160847bf2fa684d0ca231c4518c691b92dbc1953f8fcad761", func := "cubby/cubbylaw20.ShelfKeeps", spec := "shelfKeeps", unfollowed := true, recurses := true, plainKeys := false, apart := false, narrowed := true }
def ShelfKeepsUptoSaid : Prop := shelfKeepsUptoRow.holds Try.pinned (OpenSpec.upto shelfKeepsSpec)

/-- 'cubbylaw20.ShelfOrder', WHERE WHAT IT READS IS OF BULK AT MOST 1048576: true; the input reads as it did. -/
def shelfOrderUptoRow : OpenClaim := { program := "ytkhalpmmdlppkaa", sum := "970435b813388f7160847bf2fa684d0ca231c4518c691b92dbc1953f8fcad761", func := "cubby/cubbylaw20.ShelfOrder", spec := "shelfOrder", unfollowed := true, recurses := true, plainKeys := false, apart := false, narrowed := true }
def ShelfOrderUptoSaid : Prop := shelfOrderUptoRow.holds Try.pinned (OpenSpec.upto shelfOrderSpec)

/-- 'cubbylaw20.ShelfPlays', WHERE WHAT IT READS IS OF BULK AT MOST 1048576: true; the input reads as it did. -/
def shelfPlaysUptoRow : OpenClaim := { program := "ytkhalpmmdlppkaa", sum := "970435b813388f7160847bf2fa684d0ca231c4518c691b92dbc1953f8fcad761", func := "cubby/cubbylaw20.ShelfPlays", spec := "shelfPlays", unfollowed := true, recurses := true, plainKeys := false, apart := false, narrowed := true }
def ShelfPlaysUptoSaid : Prop := shelfPlaysUptoRow.holds Try.pinned (OpenSpec.upto shelfPlaysSpec)

/-- 'cubbylaw20.ShelfNil', WHERE WHAT IT READS IS OF BULK AT MOST 1048576: true; the input reads as it did. -/
def shelfNilUptoRow : OpenClaim := { program := "ytkhalpmmdlppkaa", sum := "970435b813388f7160847bf2fa684d0ca231c4518c691b92dbc1953f8fcad761", func := "cubby/cubbylaw20.ShelfNil", spec := "shelfNil", unfollowed := true, recurses := true, plainKeys := false, apart := false, narrowed := true }
def ShelfNilUptoSaid : Prop := shelfNilUptoRow.holds Try.pinned (OpenSpec.upto shelfNilSpec)

/-- 'cubbylaw03.WalRound', WHERE WHAT IT READS IS OF BULK AT MOST 1048576: true; the input reads as it did. -/
def walRoundUptoRow : OpenClaim := { program := "ytkhalpmmdlppkaa", sum := "970435b813388f7160847bf2fa684d0ca231c4518c691b92dbc1953f8fcad761", func := "cubby/cubbylaw03.WalRound", spec := "walRound", unfollowed := true, recurses := true, plainKeys := false, apart := false, narrowed := true }
def WalRoundUptoSaid : Prop := walRoundUptoRow.holds Try.pinned (OpenSpec.upto walRoundSpec)

/-- 'cubbylaw03.WalNil', WHERE WHAT IT READS IS OF BULK AT MOST 1048576: true; the input reads as it did. -/
def walNilUptoRow : OpenClaim := { program := "ytkhalpmmdlppkaa", sum := "970435b813388f7160847bf2fa684d0ca231c4518c691b92dbc1953f8fcad761", func := "cubby/cubbylaw03.WalNil", spec := "walNil", unfollowed := true, recurses := true, plainKeys := false, apart := false, narrowed := true }
def WalNilUptoSaid : Prop := walNilUptoRow.holds Try.pinned (OpenSpec.upto walNilSpec)

/-- 'cubbylaw03.WalSafe', WHERE WHAT IT READS IS OF BULK AT MOST 1048576: true; the input reads as it did. -/
def walSafeUptoRow : OpenClaim := { program := "ytkhalpmmdlppkaa", sum := "970435b813388f7160847bf2fa684d0ca231c4518c691b92dbc1953f8fcad761", func := "cubby/cubbylaw03.WalSafe", spec := "walSafe", unfollowed := true, recurses := true, plainKeys := false, apart := false, narrowed := true }
def WalSafeUptoSaid : Prop := walSafeUptoRow.holds Try.pinned (OpenSpec.upto walSafeSpec)

/-- 'cubbylaw03.WalPlays', WHERE WHAT IT READS IS OF BULK AT MOST 1048576: true; the input reads as it did. -/
def walPlaysUptoRow : OpenClaim := { program := "ytkhalpmmdlppkaa", sum := "970435b813388f7160847bf2fa684d0ca231c4518c691b92dbc1953f8fcad761", func := "cubby/cubbylaw03.WalPlays", spec := "walPlays", unfollowed := true, recurses := true, plainKeys := false, apart := false, narrowed := true }
def WalPlaysUptoSaid : Prop := walPlaysUptoRow.holds Try.pinned (OpenSpec.upto walPlaysSpec)

end Rows
end Go.Proofs.Ytkhalpmmdlppkaa
