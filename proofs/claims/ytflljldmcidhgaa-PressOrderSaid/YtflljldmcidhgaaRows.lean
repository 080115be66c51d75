/-
  No cell of these rows narrows 'for every input' (looked for: loops, veiled, ifaces, maps, wideKeys, modest, calm, conditions, laid).
  DERIVED. THE GIVEN ROWS OF THIS SEAT. 5 by the template 'for every input the law returns true; each argument reads behind the call as it read before'; 0 by the template 'total and deterministic' (their statements: YtflljldmcidhgaaTotals.lean).
  GIVEN WITH THE SEED: the statements are not yours to turn. If you find one false, say at which input.
  Laid BY PROGRAM, IN A SANDBOX (cutbox-rows.mjs): the forced cells as the released guide's own fill.sh prints them over the translation 3f6dfcf5e2f4947e… (all of the seat's roots in one cut). By AI agents, Wed Nov 11 2026. No macro, syntax, notation, axiom, sorry.
-/
import Derived.Test.YtflljldmcidhgaaChecked
import GoSem.Claim
import GoSem.ClaimJoined
import GoSem.ClaimMapViews
import Derived.JoinedTies
import Derived.KernelRfl
namespace Go.Proofs.Ytflljldmcidhgaa
/- THE CELL 'sum', in the pinned program and in every row, IS THE sha256 OF THE DUMP (.gsa) THAT YtflljldmcidhgaaProg.lean LOADS. Nothing in Lean hashes anything: it is a label: what it is worth is what the hold of that sum in a sandbox is worth. -/
noncomputable def Try.pinned : Pinned := { name := "ytflljldmcidhgaa", sum := "3f6dfcf5e2f4947e0faa4843787fcc9a64e5a74d5a055c48d9bf509c9d9de7d2", checked := Try.checked }
namespace Rows
def none {H : Type} : Left H := { results := [], args := [] }

/-- 'praxinoscopelaw28.PressTells': WHATEVER THE INPUT: true; the input reads as it did. -/
def pressTellsSpec : ChangeSpec := { name := "pressTells", fn := fun _ => fun
  | [d1, d2, d3] => { results := [.lit (.bool true)], args := [d1, d2, d3] }
  | _ => none }
def pressTellsRow : OpenClaim := { program := "ytflljldmcidhgaa", sum := "3f6dfcf5e2f4947e0faa4843787fcc9a64e5a74d5a055c48d9bf509c9d9de7d2", func := "praxinoscope/praxinoscopelaw28.PressTells", spec := "pressTells", unfollowed := true, recurses := true, apart := false }
def PressTellsSaid : Prop := pressTellsRow.holds Try.pinned (OpenSpec.ofChange pressTellsSpec)

/-- ITS FALSE NEIGHBOUR: 'it returns false'. Refute it at one input. -/
def pressTellsWrong : ChangeSpec := { name := "pressTells", fn := fun _ => fun
  | [d1, d2, d3] => { results := [.lit (.bool false)], args := [d1, d2, d3] }
  | _ => none }
def PressTellsWrongFalsely : Prop := pressTellsRow.holds Try.pinned (OpenSpec.ofChange pressTellsWrong)

/-- 'praxinoscopelaw28.PressKnown': WHATEVER THE INPUT: true; the input reads as it did. -/
def pressKnownSpec : ChangeSpec := { name := "pressKnown", fn := fun _ => fun
  | [] => { results := [.lit (.bool true)], args := [] }
  | _ => none }
def pressKnownRow : OpenClaim := { program := "ytflljldmcidhgaa", sum := "3f6dfcf5e2f4947e0faa4843787fcc9a64e5a74d5a055c48d9bf509c9d9de7d2", func := "praxinoscope/praxinoscopelaw28.PressKnown", spec := "pressKnown", unfollowed := true, recurses := true, apart := false }
def PressKnownSaid : Prop := pressKnownRow.holds Try.pinned (OpenSpec.ofChange pressKnownSpec)

/-- ITS FALSE NEIGHBOUR: 'it returns false'. Refute it at one input. -/
def pressKnownWrong : ChangeSpec := { name := "pressKnown", fn := fun _ => fun
  | [] => { results := [.lit (.bool false)], args := [] }
  | _ => none }
def PressKnownWrongFalsely : Prop := pressKnownRow.holds Try.pinned (OpenSpec.ofChange pressKnownWrong)

/-- 'praxinoscopelaw28.PressTurned': WHATEVER THE INPUT: true; the input reads as it did. -/
def pressTurnedSpec : ChangeSpec := { name := "pressTurned", fn := fun _ => fun
  | [d1, d2, d3, d4] => { results := [.lit (.bool true)], args := [d1, d2, d3, d4] }
  | _ => none }
def pressTurnedRow : OpenClaim := { program := "ytflljldmcidhgaa", sum := "3f6dfcf5e2f4947e0faa4843787fcc9a64e5a74d5a055c48d9bf509c9d9de7d2", func := "praxinoscope/praxinoscopelaw28.PressTurned", spec := "pressTurned", unfollowed := true, recurses := true, apart := false }
def PressTurnedSaid : Prop := pressTurnedRow.holds Try.pinned (OpenSpec.ofChange pressTurnedSpec)

/-- ITS FALSE NEIGHBOUR: 'it returns false'. Refute it at one input. -/
def pressTurnedWrong : ChangeSpec := { name := "pressTurned", fn := fun _ => fun
  | [d1, d2, d3, d4] => { results := [.lit (.bool false)], args := [d1, d2, d3, d4] }
  | _ => none }
def PressTurnedWrongFalsely : Prop := pressTurnedRow.holds Try.pinned (OpenSpec.ofChange pressTurnedWrong)

/-- 'praxinoscopelaw28.PressOrder': WHATEVER THE INPUT: true; the input reads as it did. -/
def pressOrderSpec : ChangeSpec := { name := "pressOrder", fn := fun _ => fun
  | [d1, d2, d3] => { results := [.lit (.bool true)], args := [d1, d2, d3] }
  | _ => none }
def pressOrderRow : OpenClaim := { program := "ytflljldmcidhgaa", sum := "3f6dfcf5e2f4947e0faa4843787fcc9a64e5a74d5a055c48d9bf509c9d9de7d2", func := "praxinoscope/praxinoscopelaw28.PressOrder", spec := "pressOrder", unfollowed := true, recurses := true, apart := false }
def PressOrderSaid : Prop := pressOrderRow.holds Try.pinned (OpenSpec.ofChange pressOrderSpec)

/-- ITS FALSE NEIGHBOUR: 'it returns false'. Refute it at one input. -/
def pressOrderWrong : ChangeSpec := { name := "pressOrder", fn := fun _ => fun
  | [d1, d2, d3] => { results := [.lit (.bool false)], args := [d1, d2, d3] }
  | _ => none }
def PressOrderWrongFalsely : Prop := pressOrderRow.holds Try.pinned (OpenSpec.ofChange pressOrderWrong)

/-- 'praxinoscopelaw28.PressEnough': WHATEVER THE INPUT: true; the input reads as it did. -/
def pressEnoughSpec : ChangeSpec := { name := "pressEnough", fn := fun _ => fun
  | [d1, d2, d3] => { results := [.lit (.bool true)], args := [d1, d2, d3] }
  | _ => none }
def pressEnoughRow : OpenClaim := { program := "ytflljldmcidhgaa", sum := "3f6dfcf5e2f4947e0faa4843787fcc9a64e5a74d5a055c48d9bf509c9d9de7d2", func := "praxinoscope/praxinoscopelaw28.PressEnough", spec := "pressEnough", unfollowed := true, recurses := true, apart := false }
def PressEnoughSaid : Prop := pressEnoughRow.holds Try.pinned (OpenSpec.ofChange pressEnoughSpec)

/-- ITS FALSE NEIGHBOUR: 'it returns false'. Refute it at one input. -/
def pressEnoughWrong : ChangeSpec := { name := "pressEnough", fn := fun _ => fun
  | [d1, d2, d3] => { results := [.lit (.bool false)], args := [d1, d2, d3] }
  | _ => none }
def PressEnoughWrongFalsely : Prop := pressEnoughRow.holds Try.pinned (OpenSpec.ofChange pressEnoughWrong)

/- THE SECOND FORM. 'bulk': how many values and letters a reading holds, each counted each time it is reached (what is shared counts as often as it is met; a slice's spare places count too). A statement '..UptoSaid' is the law's where the arguments, and the package variables that the reading takes, are together of bulk at most 1048576: NARROWER than '..Said'. Prove '..Said' where nothing that the law and all that it calls make is longer than what came in: it says more and counts as full. Else prove '..UptoSaid'. A law counts once. -/
mutual
def uptoBulk {H : Type} : DataW H → Nat
  | .lit (.string bytes) => bytes.length + 1
  | .lit _ => 1
  | .nil => 1
  | .ptr d => uptoBulk d + 1
  | .slice elems spare => uptoBulkAll elems + uptoBulkAll spare + 1
  | .agg parts => uptoBulkAll parts + 1
  | .iface _ d => uptoBulk d + 1
  | .map entries => uptoBulkEntries entries + 1
  | .held _ => 1
def uptoBulkAll {H : Type} : List (DataW H) → Nat
  | [] => 0
  | d :: r => uptoBulk d + uptoBulkAll r
def uptoBulkEntries {H : Type} : List (Lit × DataW H) → Nat
  | [] => 0
  | x :: r => uptoBulkEntry x + uptoBulkEntries r
def uptoBulkEntry {H : Type} : Lit × DataW H → Nat
  | (.string bytes, d) => bytes.length + uptoBulk d + 1
  | (_, d) => uptoBulk d + 1
 end
def uptoSmall : (H : Type) → List (DataW H) → Bool := fun _ ds => decide (uptoBulkAll ds ≤ 1048576)
def OpenSpec.upto (s : _root_.Go.ChangeSpec) : _root_.Go.OpenSpec := { _root_.Go.OpenSpec.ofChange s with cond := some uptoSmall }

/-- 'praxinoscopelaw28.PressTells', WHERE WHAT IT READS IS OF BULK AT MOST 1048576: true; the input reads as it did. -/
def pressTellsUptoRow : OpenClaim := { program := "ytflljldmcidhgaa", sum := "3f6dfcf5e2f4947e0faa4843787fcc9a64e5a74d5a055c48d9bf509c9d9de7d2", func := "praxinoscope/praxinoscopelaw28.PressTells", spec := "pressTells", unfollowed := true, recurses := true, apart := false, narrowed := true }
def PressTellsUptoSaid : Prop := pressTellsUptoRow.holds Try.pinned (OpenSpec.upto pressTellsSpec)

/-- 'praxinoscopelaw28.PressKnown', WHERE WHAT IT READS IS OF BULK AT MOST 1048576: true; the input reads as it did. -/
def pressKnownUptoRow : OpenClaim := { program := "ytflljldmcidhgaa", sum := "3f6dfcf5e2f4947e0faa4843787fcc9a64e5a74d5a055c48d9bf509c9d9de7d2", func := "praxinoscope/praxinoscopelaw28.PressKnown", spec := "pressKnown", unfollowed := true, recurses := true, apart := false, narrowed := true }
def PressKnownUptoSaid : Prop := pressKnownUptoRow.holds Try.pinned (OpenSpec.upto pressKnownSpec)

/-- 'praxinoscopelaw28.PressTurned', WHERE WHAT IT READS IS OF BULK AT MOST 1048576: true; the input reads as it did. -/
def pressTurnedUptoRow : OpenClaim := { program := "ytflljldmcidhgaa", sum := "3f6dfcf5e2f4947e0faa4843787fcc9a64e5a74d5a055c48d9bf509c9d9de7d2", func := "praxinoscope/praxinoscopelaw28.PressTurned", spec := "pressTurned", unfollowed := true, recurses := true, apart := false, narrowed := true }
def PressTurnedUptoSaid : Prop := pressTurnedUptoRow.holds Try.pinned (OpenSpec.upto pressTurnedSpec)

/-- 'praxinoscopelaw28.PressOrder', WHERE WHAT IT READS IS OF BULK AT MOST 1048576: true; the input reads as it did. -/
def pressOrderUptoRow : OpenClaim := { program := "ytflljldmcidhgaa", sum := "3f6dfcf5e2f4947e0faa4843787fcc9a64e5a74d5a055c48d9bf509c9d9de7d2", func := "praxinoscope/praxinoscopelaw28.PressOrder", spec := "pressOrder", unfollowed := true, recurses := true, apart := false, narrowed := true }
def PressOrderUptoSaid : Prop := pressOrderUptoRow.holds Try.pinned (OpenSpec.upto pressOrderSpec)

/-- 'praxinoscopelaw28.PressEnough', WHERE WHAT IT READS IS OF BULK AT MOST 1048576: true; the input reads as it did. -/
def pressEnoughUptoRow : OpenClaim := { program := "ytflljldmcidhgaa", sum := "3f6dfcf5e2f4947e0faa4843787fcc9a64e5a74d5a055c48d9bf509c9d9de7d2", func := "praxinoscope/praxinoscopelaw28.PressEnough", spec := "pressEnough", unfollowed := true, recurses := true, apart := false, narrowed := true }
def PressEnoughUptoSaid : Prop := pressEnoughUptoRow.holds Try.pinned (OpenSpec.upto pressEnoughSpec)

end Rows
end Go.Proofs.Ytflljldmcidhgaa
