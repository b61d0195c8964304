/-
  No cell of these rows narrows 'for every input' (looked for: loops, veiled, ifaces, maps, wideKeys, modest, calm, conditions, laid).
  DERIVED. THE GIVEN ROWS OF THIS SEAT. 7 by the template 'for every input the law returns true; each argument reads behind the call as it read before'; 0 by the template 'total and deterministic' (their statements: YtcjiokiafdagdaaTotals.lean).
  GIVEN WITH THE SEED: the statements are not yours to turn. If you find one false, say at which input.
  Laid BY PROGRAM, IN A SANDBOX (cutbox-rows.mjs): the forced cells as the released guide's own fill.sh prints them over the translation 174aa7cf2584224d… (all of the seat's roots in one cut). By AI agents, Wed Nov 11 2026. No macro, syntax, notation, axiom, sorry.
-/
import Derived.Test.YtcjiokiafdagdaaChecked
import GoSem.Claim
import GoSem.ClaimJoined
import GoSem.ClaimMapViews
import Derived.JoinedTies
import Derived.KernelRfl
namespace Go.Proofs.Ytcjiokiafdagdaa
/- THE CELL 'sum', in the pinned program and in every row, IS THE sha256 OF THE DUMP (.gsa) THAT YtcjiokiafdagdaaProg.lean LOADS. Nothing in Lean hashes anything: it is a label: what it is worth is what the hold of that sum in a sandbox is worth. -/
noncomputable def Try.pinned : Pinned := { name := "ytcjiokiafdagdaa", sum := "174aa7cf2584224d9ceccef73dc14b6d5a5bcfbc3297abbbf3ef084cea330a18", checked := Try.checked }
namespace Rows
def none {H : Type} : Left H := { results := [], args := [] }

/-- 'sallyportlaw17.StateJoins': WHATEVER THE INPUT: true; the input reads as it did. -/
def stateJoinsSpec : ChangeSpec := { name := "stateJoins", fn := fun _ => fun
  | [d1, d2] => { results := [.lit (.bool true)], args := [d1, d2] }
  | _ => none }
def stateJoinsRow : OpenClaim := { program := "ytcjiokiafdagdaa", sum := "174aa7cf2584224d9ceccef73dc14b6d5a5bcfbc3297abbbf3ef084cea330a18", func := "sallyport/sallyportlaw17.StateJoins", spec := "stateJoins", unfollowed := true, recurses := true, apart := false }
def StateJoinsSaid : Prop := stateJoinsRow.holds Try.pinned (OpenSpec.ofChange stateJoinsSpec)

/-- ITS FALSE NEIGHBOUR: 'it returns false'. Refute it at one input. -/
def stateJoinsWrong : ChangeSpec := { name := "stateJoins", fn := fun _ => fun
  | [d1, d2] => { results := [.lit (.bool false)], args := [d1, d2] }
  | _ => none }
def StateJoinsWrongFalsely : Prop := stateJoinsRow.holds Try.pinned (OpenSpec.ofChange stateJoinsWrong)

/-- 'sallyportlaw17.StateOrder': WHATEVER THE INPUT: true; the input reads as it did. -/
def stateOrderSpec : ChangeSpec := { name := "stateOrder", fn := fun _ => fun
  | [d1, d2, d3] => { results := [.lit (.bool true)], args := [d1, d2, d3] }
  | _ => none }
def stateOrderRow : OpenClaim := { program := "ytcjiokiafdagdaa", sum := "174aa7cf2584224d9ceccef73dc14b6d5a5bcfbc3297abbbf3ef084cea330a18", func := "sallyport/sallyportlaw17.StateOrder", spec := "stateOrder", unfollowed := true, recurses := true, apart := false }
def StateOrderSaid : Prop := stateOrderRow.holds Try.pinned (OpenSpec.ofChange stateOrderSpec)

/-- ITS FALSE NEIGHBOUR: 'it returns false'. Refute it at one input. -/
def stateOrderWrong : ChangeSpec := { name := "stateOrder", fn := fun _ => fun
  | [d1, d2, d3] => { results := [.lit (.bool false)], args := [d1, d2, d3] }
  | _ => none }
def StateOrderWrongFalsely : Prop := stateOrderRow.holds Try.pinned (OpenSpec.ofChange stateOrderWrong)

/-- 'sallyportlaw17.StateLeast': WHATEVER THE INPUT: true; the input reads as it did. -/
def stateLeastSpec : ChangeSpec := { name := "stateLeast", fn := fun _ => fun
  | [d1, d2] => { results := [.lit (.bool true)], args := [d1, d2] }
  | _ => none }
def stateLeastRow : OpenClaim := { program := "ytcjiokiafdagdaa", sum := "174aa7cf2584224d9ceccef73dc14b6d5a5bcfbc3297abbbf3ef084cea330a18", func := "sallyport/sallyportlaw17.StateLeast", spec := "stateLeast", unfollowed := true, recurses := true, apart := false }
def StateLeastSaid : Prop := stateLeastRow.holds Try.pinned (OpenSpec.ofChange stateLeastSpec)

/-- ITS FALSE NEIGHBOUR: 'it returns false'. Refute it at one input. -/
def stateLeastWrong : ChangeSpec := { name := "stateLeast", fn := fun _ => fun
  | [d1, d2] => { results := [.lit (.bool false)], args := [d1, d2] }
  | _ => none }
def StateLeastWrongFalsely : Prop := stateLeastRow.holds Try.pinned (OpenSpec.ofChange stateLeastWrong)

/-- 'sallyportlaw17.StateTurns': WHATEVER THE INPUT: true; the input reads as it did. -/
def stateTurnsSpec : ChangeSpec := { name := "stateTurns", fn := fun _ => fun
  | [d1, d2, d3] => { results := [.lit (.bool true)], args := [d1, d2, d3] }
  | _ => none }
def stateTurnsRow : OpenClaim := { program := "ytcjiokiafdagdaa", sum := "174aa7cf2584224d9ceccef73dc14b6d5a5bcfbc3297abbbf3ef084cea330a18", func := "sallyport/sallyportlaw17.StateTurns", spec := "stateTurns", unfollowed := true, recurses := true, apart := false }
def StateTurnsSaid : Prop := stateTurnsRow.holds Try.pinned (OpenSpec.ofChange stateTurnsSpec)

/-- ITS FALSE NEIGHBOUR: 'it returns false'. Refute it at one input. -/
def stateTurnsWrong : ChangeSpec := { name := "stateTurns", fn := fun _ => fun
  | [d1, d2, d3] => { results := [.lit (.bool false)], args := [d1, d2, d3] }
  | _ => none }
def StateTurnsWrongFalsely : Prop := stateTurnsRow.holds Try.pinned (OpenSpec.ofChange stateTurnsWrong)

/-- 'sallyportlaw17.StateTurned': WHATEVER THE INPUT: true; the input reads as it did. -/
def stateTurnedSpec : ChangeSpec := { name := "stateTurned", fn := fun _ => fun
  | [d1, d2, d3] => { results := [.lit (.bool true)], args := [d1, d2, d3] }
  | _ => none }
def stateTurnedRow : OpenClaim := { program := "ytcjiokiafdagdaa", sum := "174aa7cf2584224d9ceccef73dc14b6d5a5bcfbc3297abbbf3ef084cea330a18", func := "sallyport/sallyportlaw17.StateTurned", spec := "stateTurned", unfollowed := true, recurses := true, apart := false }
def StateTurnedSaid : Prop := stateTurnedRow.holds Try.pinned (OpenSpec.ofChange stateTurnedSpec)

/-- ITS FALSE NEIGHBOUR: 'it returns false'. Refute it at one input. -/
def stateTurnedWrong : ChangeSpec := { name := "stateTurned", fn := fun _ => fun
  | [d1, d2, d3] => { results := [.lit (.bool false)], args := [d1, d2, d3] }
  | _ => none }
def StateTurnedWrongFalsely : Prop := stateTurnedRow.holds Try.pinned (OpenSpec.ofChange stateTurnedWrong)

/-- 'sallyportlaw17.StateKnown': WHATEVER THE INPUT: true; the input reads as it did. -/
def stateKnownSpec : ChangeSpec := { name := "stateKnown", fn := fun _ => fun
  | [] => { results := [.lit (.bool true)], args := [] }
  | _ => none }
def stateKnownRow : OpenClaim := { program := "ytcjiokiafdagdaa", sum := "174aa7cf2584224d9ceccef73dc14b6d5a5bcfbc3297abbbf3ef084cea330a18", func := "sallyport/sallyportlaw17.StateKnown", spec := "stateKnown", unfollowed := true, recurses := true, apart := false }
def StateKnownSaid : Prop := stateKnownRow.holds Try.pinned (OpenSpec.ofChange stateKnownSpec)

/-- ITS FALSE NEIGHBOUR: 'it returns false'. Refute it at one input. -/
def stateKnownWrong : ChangeSpec := { name := "stateKnown", fn := fun _ => fun
  | [] => { results := [.lit (.bool false)], args := [] }
  | _ => none }
def StateKnownWrongFalsely : Prop := stateKnownRow.holds Try.pinned (OpenSpec.ofChange stateKnownWrong)

/-- 'sallyportlaw17.StateTrue': WHATEVER THE INPUT: true; the input reads as it did. -/
def stateTrueSpec : ChangeSpec := { name := "stateTrue", fn := fun _ => fun
  | [d1, d2, d3] => { results := [.lit (.bool true)], args := [d1, d2, d3] }
  | _ => none }
def stateTrueRow : OpenClaim := { program := "ytcjiokiafdagdaa", sum := "174aa7cf2584224d9ceccef73dc14b6d5a5bcfbc3297abbbf3ef084cea330a18", func := "sallyport/sallyportlaw17.StateTrue", spec := "stateTrue", unfollowed := true, recurses := true, apart := false }
def StateTrueSaid : Prop := stateTrueRow.holds Try.pinned (OpenSpec.ofChange stateTrueSpec)

/-- ITS FALSE NEIGHBOUR: 'it returns false'. Refute it at one input. -/
def stateTrueWrong : ChangeSpec := { name := "stateTrue", fn := fun _ => fun
  | [d1, d2, d3] => { results := [.lit (.bool false)], args := [d1, d2, d3] }
  | _ => none }
def StateTrueWrongFalsely : Prop := stateTrueRow.holds Try.pinned (OpenSpec.ofChange stateTrueWrong)

/- THE SECOND FORM. 'bulk': how many values and letters a reading holds, each counted each time it is reached (what is shared counts as often as it is met; a slice's spare places count too). A statement '..UptoSaid' is the law's where the arguments, and the package variables that the reading takes, are together of bulk at most 1048576: NARROWER than '..Said'. Prove '..Said' where nothing that the law and all that it calls make is longer than what came in: it says more and counts as full. Else prove '..UptoSaid'. A law counts once. -/
mutual
def uptoBulk {H : Type} : DataW H → Nat
  | .lit (.string bytes) => bytes.length + 1
  | .lit _ => 1
  | .nil => 1
  | .ptr d => uptoBulk d + 1
  | .slice elems spare => uptoBulkAll elems + uptoBulkAll spare + 1
  | .agg parts => uptoBulkAll parts + 1
  | .iface _ d => uptoBulk d + 1
  | .map entries => uptoBulkEntries entries + 1
  | .held _ => 1
def uptoBulkAll {H : Type} : List (DataW H) → Nat
  | [] => 0
  | d :: r => uptoBulk d + uptoBulkAll r
def uptoBulkEntries {H : Type} : List (Lit × DataW H) → Nat
  | [] => 0
  | x :: r => uptoBulkEntry x + uptoBulkEntries r
def uptoBulkEntry {H : Type} : Lit × DataW H → Nat
  | (.string bytes, d) => bytes.length + uptoBulk d + 1
  | (_, d) => uptoBulk d + 1
 end
def uptoSmall : (H : Type) → List (DataW H) → Bool := fun _ ds => decide (uptoBulkAll ds ≤ 1048576)
def OpenSpec.upto (s : _root_.Go.ChangeSpec) : _root_.Go.OpenSpec := { _root_.Go.OpenSpec.ofChange s with cond := some uptoSmall }

/-- 'sallyportlaw17.StateJoins', WHERE WHAT IT READS IS OF BULK AT MOST 1048576: true; the input reads as it did. -/
def stateJoinsUptoRow : OpenClaim := { program := "ytcjiokiafdagdaa", sum := "174aa7cf2584224d9ceccef73dc14b6d5a5bcfbc3297abbbf3ef084cea330a18", func := "sallyport/sallyportlaw17.StateJoins", spec := "stateJoins", unfollowed := true, recurses := true, apart := false, narrowed := true }
def StateJoinsUptoSaid : Prop := stateJoinsUptoRow.holds Try.pinned (OpenSpec.upto stateJoinsSpec)

/-- 'sallyportlaw17.StateOrder', WHERE WHAT IT READS IS OF BULK AT MOST 1048576: true; the input reads as it did. -/
def stateOrderUptoRow : OpenClaim := { program := "ytcjiokiafdagdaa", sum := "174aa7cf2584224d9ceccef73dc14b6d5a5bcfbc3297abbbf3ef084cea330a18", func := "sallyport/sallyportlaw17.StateOrder", spec := "stateOrder", unfollowed := true, recurses := true, apart := false, narrowed := true }
def StateOrderUptoSaid : Prop := stateOrderUptoRow.holds Try.pinned (OpenSpec.upto stateOrderSpec)

/-- 'sallyportlaw17.StateLeast', WHERE WHAT IT READS IS OF BULK AT MOST 1048576: true; the input reads as it did. -/
def stateLeastUptoRow : OpenClaim := { program := "ytcjiokiafdagdaa", sum := "174aa7cf2584224d9ceccef73dc14b6d5a5bcfbc3297abbbf3ef084cea330a18", func := "sallyport/sallyportlaw17.StateLeast", spec := "stateLeast", unfollowed := true, recurses := true, apart := false, narrowed := true }
def StateLeastUptoSaid : Prop := stateLeastUptoRow.holds Try.pinned (OpenSpec.upto stateLeastSpec)

/-- 'sallyportlaw17.StateTurns', WHERE WHAT IT READS IS OF BULK AT MOST 1048576: true; the input reads as it did. -/
def stateTurnsUptoRow : OpenClaim := { program := "ytcjiokiafdagdaa", sum := "174aa7cf2584224d9ceccef73dc14b6d5a5bcfbc3297abbbf3ef084cea330a18", func := "sallyport/sallyportlaw17.StateTurns", spec := "stateTurns", unfollowed := true, recurses := true, apart := false, narrowed := true }
def StateTurnsUptoSaid : Prop := stateTurnsUptoRow.holds Try.pinned (OpenSpec.upto stateTurnsSpec)

/-- 'sallyportlaw17.StateTurned', WHERE WHAT IT READS IS OF BULK AT MOST 1048576: true; the input reads as it did. -/
def stateTurnedUptoRow : OpenClaim := { program := "ytcjiokiafdagdaa", sum := "174aa7cf2584224d9ceccef73dc14b6d5a5bcfbc3297abbbf3ef084cea330a18", func := "sallyport/sallyportlaw17.StateTurned", spec := "stateTurned", unfollowed := true, recurses := true, apart := false, narrowed := true }
def StateTurnedUptoSaid : Prop := stateTurnedUptoRow.holds Try.pinned (OpenSpec.upto stateTurnedSpec)

/-- 'sallyportlaw17.StateKnown', WHERE WHAT IT READS IS OF BULK AT MOST 1048576: true; the input reads as it did. -/
def stateKnownUptoRow : OpenClaim := { program := "ytcjiokiafdagdaa", sum := "174aa7cf2584224d9ceccef73dc14b6d5a5bcfbc3297abbbf3ef084cea330a18", func := "sallyport/sallyportlaw17.StateKnown", spec := "stateKnown", unfollowed := true, recurses := true, apart := false, narrowed := true }
def StateKnownUptoSaid : Prop := stateKnownUptoRow.holds Try.pinned (OpenSpec.upto stateKnownSpec)

/-- 'sallyportlaw17.StateTrue', WHERE WHAT IT READS IS OF BULK AT MOST 1048576: true; the input reads as it did. -/
def stateTrueUptoRow : OpenClaim := { program := "ytcjiokiafdagdaa", sum := "174aa7cf2584224d9ceccef73dc14b6d5a5bcfbc3297abbbf3ef084cea330a18", func := "sallyport/sallyportlaw17.StateTrue", spec := "stateTrue", unfollowed := true, recurses := true, apart := false, narrowed := true }
def StateTrueUptoSaid : Prop := stateTrueUptoRow.holds Try.pinned (OpenSpec.upto stateTrueSpec)

end Rows
end Go.Proofs.Ytcjiokiafdagdaa
