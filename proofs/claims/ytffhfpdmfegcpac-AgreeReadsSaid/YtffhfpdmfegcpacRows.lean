/-
  No cell of these rows narrows 'for every input' (looked for: loops, veiled, ifaces, maps, wideKeys, modest, calm, conditions, laid).
  DERIVED. THE GIVEN ROWS OF THIS SEAT. 5 by the template 'for every input the law returns true; each argument reads behind the call as it read before'; 0 by the template 'total and deterministic' (their statements: YtffhfpdmfegcpacTotals.lean).
  GIVEN WITH THE SEED: the statements are not yours to turn. If you find one false, say at which input.
  Laid BY PROGRAM, IN A SANDBOX (cutbox-rows.mjs): the forced cells as the released guide's own fill.sh prints them over the translation a092a6222c06bdf8… (all of the seat's roots in one cut). By AI agents, Wed Nov 11 2026. No macro, syntax, notation, axiom, sorry.
-/
import Derived.Test.YtffhfpdmfegcpacChecked
import GoSem.Claim
import GoSem.ClaimJoined
import GoSem.ClaimMapViews
import Derived.JoinedTies
import Derived.KernelRfl
namespace Go.Proofs.Ytffhfpdmfegcpac
/- THE CELL 'sum', in the pinned program and in every row, IS THE sha256 OF THE DUMP (.gsa) THAT YtffhfpdmfegcpacProg.lean LOADS. Nothing in Lean hashes anything: it is a label: what it is worth is what the hold of that sum in a sandbox is worth. -/
noncomputable def Try.pinned : Pinned := { name := "ytffhfpdmfegcpac", sum := "a092a6222c06bdf8db48dd93f51c3ea91af1a13443ea59e70b495d1ac3c9bbcb", checked := Try.checked }
namespace Rows
def none {H : Type} : Left H := { results := [], args := [] }

/-- 'ringdovekeep.OrderFinds': WHATEVER THE INPUT: true; the input reads as it did. -/
def orderFindsSpec : ChangeSpec := { name := "orderFinds", fn := fun _ => fun
  | [d1, d2, d3] => { results := [.lit (.bool true)], args := [d1, d2, d3] }
  | _ => none }
def orderFindsRow : OpenClaim := { program := "ytffhfpdmfegcpac", sum := "a092a6222c06bdf8db48dd93f51c3ea91af1a13443ea59e70b495d1ac3c9bbcb", func := "ringdove/ringdovekeep.OrderFinds", spec := "orderFinds", recurses := true, plainKeys := false, apart := false }
def OrderFindsSaid : Prop := orderFindsRow.holds Try.pinned (OpenSpec.ofChange orderFindsSpec)

/-- ITS FALSE NEIGHBOUR: 'it returns false'. Refute it at one input. -/
def orderFindsWrong : ChangeSpec := { name := "orderFinds", fn := fun _ => fun
  | [d1, d2, d3] => { results := [.lit (.bool false)], args := [d1, d2, d3] }
  | _ => none }
def OrderFindsWrongFalsely : Prop := orderFindsRow.holds Try.pinned (OpenSpec.ofChange orderFindsWrong)

/-- 'ringdovekeep.StateKeeps': WHATEVER THE INPUT: true; the input reads as it did. -/
def stateKeepsSpec : ChangeSpec := { name := "stateKeeps", fn := fun _ => fun
  | [d1, d2, d3, d4] => { results := [.lit (.bool true)], args := [d1, d2, d3, d4] }
  | _ => none }
def stateKeepsRow : OpenClaim := { program := "ytffhfpdmfegcpac", sum := "a092a6222c06bdf8db48dd93f51c3ea91af1a13443ea59e70b495d1ac3c9bbcb", func := "ringdove/ringdovekeep.StateKeeps", spec := "stateKeeps", inPlace := ["internal/bytealg.IndexByteString", "internal/bytealg.IndexString"], unfollowed := true, recurses := true, named := ["internal/bytealg.MaxLen"], plainKeys := false, apart := false }
def StateKeepsSaid : Prop := stateKeepsRow.holds Try.pinned (OpenSpec.ofChange stateKeepsSpec)

/-- ITS FALSE NEIGHBOUR: 'it returns false'. Refute it at one input. -/
def stateKeepsWrong : ChangeSpec := { name := "stateKeeps", fn := fun _ => fun
  | [d1, d2, d3, d4] => { results := [.lit (.bool false)], args := [d1, d2, d3, d4] }
  | _ => none }
def StateKeepsWrongFalsely : Prop := stateKeepsRow.holds Try.pinned (OpenSpec.ofChange stateKeepsWrong)

/-- 'ringdovekeep.AgreeReads': WHATEVER THE INPUT: true; the input reads as it did. -/
def agreeReadsSpec : ChangeSpec := { name := "agreeReads", fn := fun _ => fun
  | [d1, d2, d3] => { results := [.lit (.bool true)], args := [d1, d2, d3] }
  | _ => none }
def agreeReadsRow : OpenClaim := { program := "ytffhfpdmfegcpac", sum := "a092a6222c06bdf8db48dd93f51c3ea91af1a13443ea59e70b495d1ac3c9bbcb", func := "ringdove/ringdovekeep.AgreeReads", spec := "agreeReads", inPlace := ["internal/bytealg.IndexByteString", "internal/bytealg.IndexString"], unfollowed := true, recurses := true, named := ["internal/bytealg.MaxLen"], plainKeys := false, apart := false }
def AgreeReadsSaid : Prop := agreeReadsRow.holds Try.pinned (OpenSpec.ofChange agreeReadsSpec)

/-- ITS FALSE NEIGHBOUR: 'it returns false'. Refute it at one input. -/
def agreeReadsWrong : ChangeSpec := { name := "agreeReads", fn := fun _ => fun
  | [d1, d2, d3] => { results := [.lit (.bool false)], args := [d1, d2, d3] }
  | _ => none }
def AgreeReadsWrongFalsely : Prop := agreeReadsRow.holds Try.pinned (OpenSpec.ofChange agreeReadsWrong)

/-- 'ringdovelaw.RingTells': WHATEVER THE INPUT: true; the input reads as it did. -/
def ringTellsSpec : ChangeSpec := { name := "ringTells", fn := fun _ => fun
  | [d1, d2, d3, d4, d5] => { results := [.lit (.bool true)], args := [d1, d2, d3, d4, d5] }
  | _ => none }
def ringTellsRow : OpenClaim := { program := "ytffhfpdmfegcpac", sum := "a092a6222c06bdf8db48dd93f51c3ea91af1a13443ea59e70b495d1ac3c9bbcb", func := "ringdove/ringdovelaw.RingTells", spec := "ringTells", unfollowed := true, recurses := true, plainKeys := false, apart := false }
def RingTellsSaid : Prop := ringTellsRow.holds Try.pinned (OpenSpec.ofChange ringTellsSpec)

/-- ITS FALSE NEIGHBOUR: 'it returns false'. Refute it at one input. -/
def ringTellsWrong : ChangeSpec := { name := "ringTells", fn := fun _ => fun
  | [d1, d2, d3, d4, d5] => { results := [.lit (.bool false)], args := [d1, d2, d3, d4, d5] }
  | _ => none }
def RingTellsWrongFalsely : Prop := ringTellsRow.holds Try.pinned (OpenSpec.ofChange ringTellsWrong)

/-- 'ringdovekeep.RingComes': WHATEVER THE INPUT: true; the input reads as it did. -/
def ringComesSpec : ChangeSpec := { name := "ringComes", fn := fun _ => fun
  | [d1, d2, d3, d4] => { results := [.lit (.bool true)], args := [d1, d2, d3, d4] }
  | _ => none }
def ringComesRow : OpenClaim := { program := "ytffhfpdmfegcpac", sum := "a092a6222c06bdf8db48dd93f51c3ea91af1a13443ea59e70b495d1ac3c9bbcb", func := "ringdove/ringdovekeep.RingComes", spec := "ringComes", unfollowed := true, recurses := true, plainKeys := false, apart := false }
def RingComesSaid : Prop := ringComesRow.holds Try.pinned (OpenSpec.ofChange ringComesSpec)

/-- ITS FALSE NEIGHBOUR: 'it returns false'. Refute it at one input. -/
def ringComesWrong : ChangeSpec := { name := "ringComes", fn := fun _ => fun
  | [d1, d2, d3, d4] => { results := [.lit (.bool false)], args := [d1, d2, d3, d4] }
  | _ => none }
def RingComesWrongFalsely : Prop := ringComesRow.holds Try.pinned (OpenSpec.ofChange ringComesWrong)

/- THE SECOND FORM. 'bulk': how many values and letters a reading holds, each counted each time it is reached (what is shared counts as often as it is met; a slice's spare places count too). A statement '..UptoSaid' is the law's where the arguments, and the package variables that the reading takes, are together of bulk at most 1048576: NARROWER than '..Said'. Prove '..Said' where nothing that the law and all that it calls make is longer than what came in: it says more and counts as full. Else prove '..UptoSaid'. A law counts once. -/
mutual
def uptoBulk {H : Type} : DataW H → Nat
  | .lit (.string bytes) => bytes.length + 1
  | .lit _ => 1
  | .nil => 1
  | .ptr d => uptoBulk d + 1
  | .slice elems spare => uptoBulkAll elems + uptoBulkAll spare + 1
  | .agg parts => uptoBulkAll parts + 1
  | .iface _ d => uptoBulk d + 1
  | .map entries => uptoBulkEntries entries + 1
  | .held _ => 1
def uptoBulkAll {H : Type} : List (DataW H) → Nat
  | [] => 0
  | d :: r => uptoBulk d + uptoBulkAll r
def uptoBulkEntries {H : Type} : List (Lit × DataW H) → Nat
  | [] => 0
  | x :: r => uptoBulkEntry x + uptoBulkEntries r
def uptoBulkEntry {H : Type} : Lit × DataW H → Nat
  | (.string bytes, d) => bytes.length + uptoBulk d + 1
  | (_, d) => uptoBulk d + 1
 end
def uptoSmall : (H : Type) → List (DataW H) → Bool := fun _ ds => decide (uptoBulkAll ds ≤ 1048576)
def OpenSpec.upto (s : _root_.Go.ChangeSpec) : _root_.Go.OpenSpec := { _root_.Go.OpenSpec.ofChange s with cond := some uptoSmall }

/-- 'ringdovekeep.OrderFinds', WHERE WHAT IT READS IS OF BULK AT MOST 1048576: true; the input reads as it did. -/
def orderFindsUptoRow : OpenClaim := { program := "ytffhfpdmfegcpac", sum := "a092a6222c06bdf8db48dd93f51c3ea91af1a13443ea59e70b495d1ac3c9bbcb", func := "ringdove/ringdovekeep.OrderFinds", spec := "orderFinds", recurses := true, plainKeys := false, apart := false, narrowed := true }
def OrderFindsUptoSaid : Prop := orderFindsUptoRow.holds Try.pinned (OpenSpec.upto orderFindsSpec)

/-- 'ringdovekeep.StateKeeps', WHERE WHAT IT READS IS OF BULK AT MOST 1048576: true; the input reads as it did. -/
def stateKeepsUptoRow : OpenClaim := { program := "ytffhfpdmfegcpac", sum := "a092a6222c06bdf8db48dd93f51c3ea91af1a13443ea59e70b495d1ac3c9bbcb", func := "ringdove/ringdovekeep.StateKeeps", spec := "stateKeeps", inPlace := ["internal/bytealg.IndexByteString", "internal/bytealg.IndexString"], unfollowed := true, recurses := true, named := ["internal/bytealg.MaxLen"], plainKeys := false, apart := false, narrowed := true }
def StateKeepsUptoSaid : Prop := stateKeepsUptoRow.holds Try.pinned (OpenSpec.upto stateKeepsSpec)

/-- 'ringdovekeep.AgreeReads', WHERE WHAT IT READS IS OF BULK AT MOST 1048576: true; the input reads as it did. -/
def agreeReadsUptoRow : OpenClaim := { program := "ytffhfpdmfegcpac", sum := "a092a6222c06bdf8db48dd93f51c3ea91af1a13443ea59e70b495d1ac3c9bbcb", func := "ringdove/ringdovekeep.AgreeReads", spec := "agreeReads", inPlace := ["internal/bytealg.IndexByteString", "internal/bytealg.IndexString"], unfollowed := true, recurses := true, named := ["internal/bytealg.MaxLen"], plainKeys := false, apart := false, narrowed := true }
def AgreeReadsUptoSaid : Prop := agreeReadsUptoRow.holds Try.pinned (OpenSpec.upto agreeReadsSpec)

/-- 'ringdovelaw.RingTells', WHERE WHAT IT READS IS OF BULK AT MOST 1048576: true; the input reads as it did. -/
def ringTellsUptoRow : OpenClaim := { program := "ytffhfpdmfegcpac", sum := "a092a6222c06bdf8db48dd93f51c3ea91af1a13443ea59e70b495d1ac3c9bbcb", func := "ringdove/ringdovelaw.RingTells", spec := "ringTells", unfollowed := true, recurses := true, plainKeys := false, apart := false, narrowed := true }
def RingTellsUptoSaid : Prop := ringTellsUptoRow.holds Try.pinned (OpenSpec.upto ringTellsSpec)

/-- 'ringdovekeep.RingComes', WHERE WHAT IT READS IS OF BULK AT MOST 1048576: true; the input reads as it did. -/
def ringComesUptoRow : OpenClaim := { program := "ytffhfpdmfegcpac", sum := "a092a6222c06bdf8db48dd93f51c3ea91af1a13443ea59e70b495d1ac3c9bbcb", func := "ringdove/ringdovekeep.RingComes", spec := "ringComes", unfollowed := true, recurses := true, plainKeys := false, apart := false, narrowed := true }
def RingComesUptoSaid : Prop := ringComesUptoRow.holds Try.pinned (OpenSpec.upto ringComesSpec)

end Rows
end Go.Proofs.Ytffhfpdmfegcpac
