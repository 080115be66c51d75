/-
  No cell of these rows narrows 'for every input' (looked for: loops, veiled, ifaces, maps, wideKeys, modest, calm, conditions, laid).
  DERIVED. THE GIVEN ROWS OF THIS SEAT. 5 by the template 'for every input the law returns true; each argument reads behind the call as it read before'; 0 by the template 'total and deterministic' (their statements: YtoohkcboidamnaaTotals.lean).
  GIVEN WITH THE SEED: the statements are not yours to turn. If you find one false, say at which input.
  Laid BY PROGRAM, IN A SANDBOX (cutbox-rows.mjs): the forced cells as the released guide's own fill.sh prints them over the translation 0f8a62e68e0a457c… (all of the seat's roots in one cut). By AI agents, Wed Nov 11 2026. No macro, syntax, notation, axiom, sorry.
-/
import Derived.Test.YtoohkcboidamnaaChecked
import GoSem.Claim
import GoSem.ClaimJoined
import GoSem.ClaimMapViews
import Derived.JoinedTies
import Derived.KernelRfl
namespace Go.Proofs.Ytoohkcboidamnaa
/- THE CELL 'sum', in the pinned program and in every row, IS THE sha256 OF THE DUMP (.gsa) THAT YtoohkcboidamnaaProg.lean LOADS. Nothing in Lean hashes anything: it is a label: what it is worth is what the hold of that sum in a sandbox is worth. -/
noncomputable def Try.pinned : Pinned := { name := "ytoohkcboidamnaa", sum := "0f8a62e68e0a457c11e4fbeb4420b08eb8c4674fe1d25330428a5ed2cb9017c3", checked := Try.checked }
namespace Rows
def none {H : Type} : Left H := { results := [], args := [] }

/-- 'praxinoscopelaw24.OutboxRound': WHATEVER THE INPUT: true; the input reads as it did. -/
def outboxRoundSpec : ChangeSpec := { name := "outboxRound", fn := fun _ => fun
  | [d1, d2, d3] => { results := [.lit (.bool true)], args := [d1, d2, d3] }
  | _ => none }
def outboxRoundRow : OpenClaim := { program := "ytoohkcboidamnaa", sum := "0f8a62e68e0a457c11e4fbeb4420b08eb8c4674fe1d25330428a5ed2cb9017c3", func := "praxinoscope/praxinoscopelaw24.OutboxRound", spec := "outboxRound", apart := false }
def OutboxRoundSaid : Prop := outboxRoundRow.holds Try.pinned (OpenSpec.ofChange outboxRoundSpec)

/-- ITS FALSE NEIGHBOUR: 'it returns false'. Refute it at one input. -/
def outboxRoundWrong : ChangeSpec := { name := "outboxRound", fn := fun _ => fun
  | [d1, d2, d3] => { results := [.lit (.bool false)], args := [d1, d2, d3] }
  | _ => none }
def OutboxRoundWrongFalsely : Prop := outboxRoundRow.holds Try.pinned (OpenSpec.ofChange outboxRoundWrong)

/-- 'praxinoscopelaw24.OutboxScript': WHATEVER THE INPUT: true; the input reads as it did. -/
def outboxScriptSpec : ChangeSpec := { name := "outboxScript", fn := fun _ => fun
  | [d1, d2] => { results := [.lit (.bool true)], args := [d1, d2] }
  | _ => none }
def outboxScriptRow : OpenClaim := { program := "ytoohkcboidamnaa", sum := "0f8a62e68e0a457c11e4fbeb4420b08eb8c4674fe1d25330428a5ed2cb9017c3", func := "praxinoscope/praxinoscopelaw24.OutboxScript", spec := "outboxScript", unfollowed := true, recurses := true, apart := false }
def OutboxScriptSaid : Prop := outboxScriptRow.holds Try.pinned (OpenSpec.ofChange outboxScriptSpec)

/-- ITS FALSE NEIGHBOUR: 'it returns false'. Refute it at one input. -/
def outboxScriptWrong : ChangeSpec := { name := "outboxScript", fn := fun _ => fun
  | [d1, d2] => { results := [.lit (.bool false)], args := [d1, d2] }
  | _ => none }
def OutboxScriptWrongFalsely : Prop := outboxScriptRow.holds Try.pinned (OpenSpec.ofChange outboxScriptWrong)

/-- 'praxinoscopelaw24.OutboxNone': WHATEVER THE INPUT: true; the input reads as it did. -/
def outboxNoneSpec : ChangeSpec := { name := "outboxNone", fn := fun _ => fun
  | [d] => { results := [.lit (.bool true)], args := [d] }
  | _ => none }
def outboxNoneRow : OpenClaim := { program := "ytoohkcboidamnaa", sum := "0f8a62e68e0a457c11e4fbeb4420b08eb8c4674fe1d25330428a5ed2cb9017c3", func := "praxinoscope/praxinoscopelaw24.OutboxNone", spec := "outboxNone", unfollowed := true, recurses := true, apart := false }
def OutboxNoneSaid : Prop := outboxNoneRow.holds Try.pinned (OpenSpec.ofChange outboxNoneSpec)

/-- ITS FALSE NEIGHBOUR: 'it returns false'. Refute it at one input. -/
def outboxNoneWrong : ChangeSpec := { name := "outboxNone", fn := fun _ => fun
  | [d] => { results := [.lit (.bool false)], args := [d] }
  | _ => none }
def OutboxNoneWrongFalsely : Prop := outboxNoneRow.holds Try.pinned (OpenSpec.ofChange outboxNoneWrong)

/-- 'praxinoscopelaw24.OutboxKnown': WHATEVER THE INPUT: true; the input reads as it did. -/
def outboxKnownSpec : ChangeSpec := { name := "outboxKnown", fn := fun _ => fun
  | [] => { results := [.lit (.bool true)], args := [] }
  | _ => none }
def outboxKnownRow : OpenClaim := { program := "ytoohkcboidamnaa", sum := "0f8a62e68e0a457c11e4fbeb4420b08eb8c4674fe1d25330428a5ed2cb9017c3", func := "praxinoscope/praxinoscopelaw24.OutboxKnown", spec := "outboxKnown", unfollowed := true, recurses := true, apart := false }
def OutboxKnownSaid : Prop := outboxKnownRow.holds Try.pinned (OpenSpec.ofChange outboxKnownSpec)

/-- ITS FALSE NEIGHBOUR: 'it returns false'. Refute it at one input. -/
def outboxKnownWrong : ChangeSpec := { name := "outboxKnown", fn := fun _ => fun
  | [] => { results := [.lit (.bool false)], args := [] }
  | _ => none }
def OutboxKnownWrongFalsely : Prop := outboxKnownRow.holds Try.pinned (OpenSpec.ofChange outboxKnownWrong)

/-- 'praxinoscopelaw24.OutboxOrder': WHATEVER THE INPUT: true; the input reads as it did. -/
def outboxOrderSpec : ChangeSpec := { name := "outboxOrder", fn := fun _ => fun
  | [d1, d2] => { results := [.lit (.bool true)], args := [d1, d2] }
  | _ => none }
def outboxOrderRow : OpenClaim := { program := "ytoohkcboidamnaa", sum := "0f8a62e68e0a457c11e4fbeb4420b08eb8c4674fe1d25330428a5ed2cb9017c3", func := "praxinoscope/praxinoscopelaw24.OutboxOrder", spec := "outboxOrder", unfollowed := true, recurses := true, apart := false }
def OutboxOrderSaid : Prop := outboxOrderRow.holds Try.pinned (OpenSpec.ofChange outboxOrderSpec)

/-- ITS FALSE NEIGHBOUR: 'it returns false'. Refute it at one input. -/
def outboxOrderWrong : ChangeSpec := { name := "outboxOrder", fn := fun _ => fun
  | [d1, d2] => { results := [.lit (.bool false)], args := [d1, d2] }
  | _ => none }
def OutboxOrderWrongFalsely : Prop := outboxOrderRow.holds Try.pinned (OpenSpec.ofChange outboxOrderWrong)

/- THE SECOND FORM. 'bulk': how many values and letters a reading holds, each counted each time it is reached (what is shared counts as often as it is met; a slice's spare places count too). A statement '..UptoSaid' is the law's where the arguments, and the package variables that the reading takes, are together of bulk at most 1048576: NARROWER than '..Said'. Prove '..Said' where nothing that the law and all that it calls make is longer than what came in: it says more and counts as full. Else prove '..UptoSaid'. A law counts once. -/
mutual
def uptoBulk {H : Type} : DataW H → Nat
  | .lit (.string bytes) => bytes.length + 1
  | .lit _ => 1
  | .nil => 1
  | .ptr d => uptoBulk d + 1
  | .slice elems spare => uptoBulkAll elems + uptoBulkAll spare + 1
  | .agg parts => uptoBulkAll parts + 1
  | .iface _ d => uptoBulk d + 1
  | .map entries => uptoBulkEntries entries + 1
  | .held _ => 1
def uptoBulkAll {H : Type} : List (DataW H) → Nat
  | [] => 0
  | d :: r => uptoBulk d + uptoBulkAll r
def uptoBulkEntries {H : Type} : List (Lit × DataW H) → Nat
  | [] => 0
  | x :: r => uptoBulkEntry x + uptoBulkEntries r
def uptoBulkEntry {H : Type} : Lit × DataW H → Nat
  | (.string bytes, d) => bytes.length + uptoBulk d + 1
  | (_, d) => uptoBulk d + 1
 end
def uptoSmall : (H : Type) → List (DataW H) → Bool := fun _ ds => decide (uptoBulkAll ds ≤ 1048576)
def OpenSpec.upto (s : _root_.Go.ChangeSpec) : _root_.Go.OpenSpec := { _root_.Go.OpenSpec.ofChange s with cond := some uptoSmall }

/-- 'praxinoscopelaw24.OutboxRound', WHERE WHAT IT READS IS OF BULK AT MOST 1048576: true; the input reads as it did. -/
def outboxRoundUptoRow : OpenClaim := { program := "ytoohkcboidamnaa", sum := "0f8a62e68e0a457c11e4fbeb4420b08eb8c4674fe1d25330428a5ed2cb9017c3", func := "praxinoscope/praxinoscopelaw24.OutboxRound", spec := "outboxRound", apart := false, narrowed := true }
def OutboxRoundUptoSaid : Prop := outboxRoundUptoRow.holds Try.pinned (OpenSpec.upto outboxRoundSpec)

/-- 'praxinoscopelaw24.OutboxScript', WHERE WHAT IT READS IS OF BULK AT MOST 1048576: true; the input reads as it did. -/
def outboxScriptUptoRow : OpenClaim := { program := "ytoohkcboidamnaa", sum := "0f8a62e68e0a457c11e4fbeb4420b08eb8c4674fe1d25330428a5ed2cb9017c3", func := "praxinoscope/praxinoscopelaw24.OutboxScript", spec := "outboxScript", unfollowed := true, recurses := true, apart := false, narrowed := true }
def OutboxScriptUptoSaid : Prop := outboxScriptUptoRow.holds Try.pinned (OpenSpec.upto outboxScriptSpec)

/-- 'praxinoscopelaw24.OutboxNone', WHERE WHAT IT READS IS OF BULK AT MOST 1048576: true; the input reads as it did. -/
def outboxNoneUptoRow : OpenClaim := { program := "ytoohkcboidamnaa", sum := "0f8a62e68e0a457c11e4fbeb4420b08eb8c4674fe1d25330428a5ed2cb9017c3", func := "praxinoscope/praxinoscopelaw24.OutboxNone", spec := "outboxNone", unfollowed := true, recurses := true, apart := false, narrowed := true }
def OutboxNoneUptoSaid : Prop := outboxNoneUptoRow.holds Try.pinned (OpenSpec.upto outboxNoneSpec)

/-- 'praxinoscopelaw24.OutboxKnown', WHERE WHAT IT READS IS OF BULK AT MOST 1048576: true; the input reads as it did. -/
def outboxKnownUptoRow : OpenClaim := { program := "ytoohkcboidamnaa", sum := "0f8a62e68e0a457c11e4fbeb4420b08eb8c4674fe1d25330428a5ed2cb9017c3", func := "praxinoscope/praxinoscopelaw24.OutboxKnown", spec := "outboxKnown", unfollowed := true, recurses := true, apart := false, narrowed := true }
def OutboxKnownUptoSaid : Prop := outboxKnownUptoRow.holds Try.pinned (OpenSpec.upto outboxKnownSpec)

/-- 'praxinoscopelaw24.OutboxOrder', WHERE WHAT IT READS IS OF BULK AT MOST 1048576: true; the input reads as it did. -/
def outboxOrderUptoRow : OpenClaim := { program := "ytoohkcboidamnaa", sum := "0f8a62e68e0a457c11e4fbeb4420b08eb8c4674fe1d25330428a5ed2cb9017c3", func := "praxinoscope/praxinoscopelaw24.OutboxOrder", spec := "outboxOrder", unfollowed := true, recurses := true, apart := false, narrowed := true }
def OutboxOrderUptoSaid : Prop := outboxOrderUptoRow.holds Try.pinned (OpenSpec.upto outboxOrderSpec)

end Rows
end Go.Proofs.Ytoohkcboidamnaa
