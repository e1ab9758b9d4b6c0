/-
  No cell of these rows narrows 'for every input' (looked for: loops, veiled, ifaces, maps, wideKeys, modest, calm, conditions, laid).
  DERIVED. THE GIVEN ROWS OF THIS SEAT. 11 by the template 'for every input the law returns true; each argument reads behind the call as it read before'; 0 by the template 'total and deterministic' (their statements: YtffhfpdmfegcpabTotals.lean).
  GIVEN WITH THE SEED: the statements are not yours to turn. If you find one false, say at which input.
  Laid BY PROGRAM, IN A SANDBOX (cutbox-rows.mjs): the forced cells as the released guide's own fill.sh prints them over the translation d8734e23e596c86b… (all of the seat's roots in one cut). By AI agents, Wed Nov 11 2026. No macro, syntax, notation, axiom, sorry.
-/
import Derived.Test.YtffhfpdmfegcpabChecked
import GoSem.Claim
import GoSem.ClaimJoined
import GoSem.ClaimMapViews
import Derived.JoinedTies
import Derived.KernelRfl
namespace Go.Proofs.Ytffhfpdmfegcpab
/- THE CELL 'sum', in the pinned program and in every row, IS THE sha256 OF THE DUMP (.gsa) THAT YtffhfpdmfegcpabProg.lean LOADS. Nothing in Lean hashes anything: it is a label: what it is worth is what the hold of that sum in a sandbox is worth. -/
noncomputable def Try.pinned : Pinned := { name := "ytffhfpdmfegcpab", sum := "d8734e23e596c86b88af647f8ed65421b6976628102523c556e315d87b32595b", checked := Try.checked }
namespace Rows
def none {H : Type} : Left H := { results := [], args := [] }

/-- 'ringdovelaw.BankTells': WHATEVER THE INPUT: true; the input reads as it did. -/
def bankTellsSpec : ChangeSpec := { name := "bankTells", fn := fun _ => fun
  | [d1, d2, d3, d4, d5, d6] => { results := [.lit (.bool true)], args := [d1, d2, d3, d4, d5, d6] }
  | _ => none }
def bankTellsRow : OpenClaim := { program := "ytffhfpdmfegcpab", sum := "d8734e23e596c86b88af647f8ed65421b6976628102523c556e315d87b32595b", func := "ringdove/ringdovelaw.BankTells", spec := "bankTells", plainKeys := false, apart := false }
def BankTellsSaid : Prop := bankTellsRow.holds Try.pinned (OpenSpec.ofChange bankTellsSpec)

/-- ITS FALSE NEIGHBOUR: 'it returns false'. Refute it at one input. -/
def bankTellsWrong : ChangeSpec := { name := "bankTells", fn := fun _ => fun
  | [d1, d2, d3, d4, d5, d6] => { results := [.lit (.bool false)], args := [d1, d2, d3, d4, d5, d6] }
  | _ => none }
def BankTellsWrongFalsely : Prop := bankTellsRow.holds Try.pinned (OpenSpec.ofChange bankTellsWrong)

/-- 'ringdovekeep.TallyCounts': WHATEVER THE INPUT: true; the input reads as it did. -/
def tallyCountsSpec : ChangeSpec := { name := "tallyCounts", fn := fun _ => fun
  | [d1, d2] => { results := [.lit (.bool true)], args := [d1, d2] }
  | _ => none }
def tallyCountsRow : OpenClaim := { program := "ytffhfpdmfegcpab", sum := "d8734e23e596c86b88af647f8ed65421b6976628102523c556e315d87b32595b", func := "ringdove/ringdovekeep.TallyCounts", spec := "tallyCounts", plainKeys := false, apart := false }
def TallyCountsSaid : Prop := tallyCountsRow.holds Try.pinned (OpenSpec.ofChange tallyCountsSpec)

/-- ITS FALSE NEIGHBOUR: 'it returns false'. Refute it at one input. -/
def tallyCountsWrong : ChangeSpec := { name := "tallyCounts", fn := fun _ => fun
  | [d1, d2] => { results := [.lit (.bool false)], args := [d1, d2] }
  | _ => none }
def TallyCountsWrongFalsely : Prop := tallyCountsRow.holds Try.pinned (OpenSpec.ofChange tallyCountsWrong)

/-- 'ringdovelaw.AtomicTells': WHATEVER THE INPUT: true; the input reads as it did. -/
def atomicTellsSpec : ChangeSpec := { name := "atomicTells", fn := fun _ => fun
  | [d1, d2, d3] => { results := [.lit (.bool true)], args := [d1, d2, d3] }
  | _ => none }
def atomicTellsRow : OpenClaim := { program := "ytffhfpdmfegcpab", sum := "d8734e23e596c86b88af647f8ed65421b6976628102523c556e315d87b32595b", func := "ringdove/ringdovelaw.AtomicTells", spec := "atomicTells", plainKeys := false, apart := false }
def AtomicTellsSaid : Prop := atomicTellsRow.holds Try.pinned (OpenSpec.ofChange atomicTellsSpec)

/-- ITS FALSE NEIGHBOUR: 'it returns false'. Refute it at one input. -/
def atomicTellsWrong : ChangeSpec := { name := "atomicTells", fn := fun _ => fun
  | [d1, d2, d3] => { results := [.lit (.bool false)], args := [d1, d2, d3] }
  | _ => none }
def AtomicTellsWrongFalsely : Prop := atomicTellsRow.holds Try.pinned (OpenSpec.ofChange atomicTellsWrong)

/-- 'ringdovekeep.ProgMerges': WHATEVER THE INPUT: true; the input reads as it did. -/
def progMergesSpec : ChangeSpec := { name := "progMerges", fn := fun _ => fun
  | [d1, d2, d3] => { results := [.lit (.bool true)], args := [d1, d2, d3] }
  | _ => none }
def progMergesRow : OpenClaim := { program := "ytffhfpdmfegcpab", sum := "d8734e23e596c86b88af647f8ed65421b6976628102523c556e315d87b32595b", func := "ringdove/ringdovekeep.ProgMerges", spec := "progMerges", plainKeys := false, apart := false }
def ProgMergesSaid : Prop := progMergesRow.holds Try.pinned (OpenSpec.ofChange progMergesSpec)

/-- ITS FALSE NEIGHBOUR: 'it returns false'. Refute it at one input. -/
def progMergesWrong : ChangeSpec := { name := "progMerges", fn := fun _ => fun
  | [d1, d2, d3] => { results := [.lit (.bool false)], args := [d1, d2, d3] }
  | _ => none }
def ProgMergesWrongFalsely : Prop := progMergesRow.holds Try.pinned (OpenSpec.ofChange progMergesWrong)

/-- 'ringdovelaw.OrderTells': WHATEVER THE INPUT: true; the input reads as it did. -/
def orderTellsSpec : ChangeSpec := { name := "orderTells", fn := fun _ => fun
  | [d1, d2, d3] => { results := [.lit (.bool true)], args := [d1, d2, d3] }
  | _ => none }
def orderTellsRow : OpenClaim := { program := "ytffhfpdmfegcpab", sum := "d8734e23e596c86b88af647f8ed65421b6976628102523c556e315d87b32595b", func := "ringdove/ringdovelaw.OrderTells", spec := "orderTells", plainKeys := false, apart := false }
def OrderTellsSaid : Prop := orderTellsRow.holds Try.pinned (OpenSpec.ofChange orderTellsSpec)

/-- ITS FALSE NEIGHBOUR: 'it returns false'. Refute it at one input. -/
def orderTellsWrong : ChangeSpec := { name := "orderTells", fn := fun _ => fun
  | [d1, d2, d3] => { results := [.lit (.bool false)], args := [d1, d2, d3] }
  | _ => none }
def OrderTellsWrongFalsely : Prop := orderTellsRow.holds Try.pinned (OpenSpec.ofChange orderTellsWrong)

/-- 'ringdovekeep.CacheLines': WHATEVER THE INPUT: true; the input reads as it did. -/
def cacheLinesSpec : ChangeSpec := { name := "cacheLines", fn := fun _ => fun
  | [d1, d2] => { results := [.lit (.bool true)], args := [d1, d2] }
  | _ => none }
def cacheLinesRow : OpenClaim := { program := "ytffhfpdmfegcpab", sum := "d8734e23e596c86b88af647f8ed65421b6976628102523c556e315d87b32595b", func := "ringdove/ringdovekeep.CacheLines", spec := "cacheLines", unfollowed := true, recurses := true, plainKeys := false, apart := false }
def CacheLinesSaid : Prop := cacheLinesRow.holds Try.pinned (OpenSpec.ofChange cacheLinesSpec)

/-- ITS FALSE NEIGHBOUR: 'it returns false'. Refute it at one input. -/
def cacheLinesWrong : ChangeSpec := { name := "cacheLines", fn := fun _ => fun
  | [d1, d2] => { results := [.lit (.bool false)], args := [d1, d2] }
  | _ => none }
def CacheLinesWrongFalsely : Prop := cacheLinesRow.holds Try.pinned (OpenSpec.ofChange cacheLinesWrong)

/-- 'ringdovelaw.ProgTells': WHATEVER THE INPUT: true; the input reads as it did. -/
def progTellsSpec : ChangeSpec := { name := "progTells", fn := fun _ => fun
  | [d1, d2, d3, d4, d5, d6] => { results := [.lit (.bool true)], args := [d1, d2, d3, d4, d5, d6] }
  | _ => none }
def progTellsRow : OpenClaim := { program := "ytffhfpdmfegcpab", sum := "d8734e23e596c86b88af647f8ed65421b6976628102523c556e315d87b32595b", func := "ringdove/ringdovelaw.ProgTells", spec := "progTells", unfollowed := true, recurses := true, plainKeys := false, apart := false }
def ProgTellsSaid : Prop := progTellsRow.holds Try.pinned (OpenSpec.ofChange progTellsSpec)

/-- ITS FALSE NEIGHBOUR: 'it returns false'. Refute it at one input. -/
def progTellsWrong : ChangeSpec := { name := "progTells", fn := fun _ => fun
  | [d1, d2, d3, d4, d5, d6] => { results := [.lit (.bool false)], args := [d1, d2, d3, d4, d5, d6] }
  | _ => none }
def ProgTellsWrongFalsely : Prop := progTellsRow.holds Try.pinned (OpenSpec.ofChange progTellsWrong)

/-- 'ringdovelaw.TallyTells': WHATEVER THE INPUT: true; the input reads as it did. -/
def tallyTellsSpec : ChangeSpec := { name := "tallyTells", fn := fun _ => fun
  | [d1, d2, d3] => { results := [.lit (.bool true)], args := [d1, d2, d3] }
  | _ => none }
def tallyTellsRow : OpenClaim := { program := "ytffhfpdmfegcpab", sum := "d8734e23e596c86b88af647f8ed65421b6976628102523c556e315d87b32595b", func := "ringdove/ringdovelaw.TallyTells", spec := "tallyTells", plainKeys := false, apart := false }
def TallyTellsSaid : Prop := tallyTellsRow.holds Try.pinned (OpenSpec.ofChange tallyTellsSpec)

/-- ITS FALSE NEIGHBOUR: 'it returns false'. Refute it at one input. -/
def tallyTellsWrong : ChangeSpec := { name := "tallyTells", fn := fun _ => fun
  | [d1, d2, d3] => { results := [.lit (.bool false)], args := [d1, d2, d3] }
  | _ => none }
def TallyTellsWrongFalsely : Prop := tallyTellsRow.holds Try.pinned (OpenSpec.ofChange tallyTellsWrong)

/-- 'ringdovekeep.AtomicCuts': WHATEVER THE INPUT: true; the input reads as it did. -/
def atomicCutsSpec : ChangeSpec := { name := "atomicCuts", fn := fun _ => fun
  | [d1, d2, d3] => { results := [.lit (.bool true)], args := [d1, d2, d3] }
  | _ => none }
def atomicCutsRow : OpenClaim := { program := "ytffhfpdmfegcpab", sum := "d8734e23e596c86b88af647f8ed65421b6976628102523c556e315d87b32595b", func := "ringdove/ringdovekeep.AtomicCuts", spec := "atomicCuts", unfollowed := true, recurses := true, plainKeys := false, apart := false }
def AtomicCutsSaid : Prop := atomicCutsRow.holds Try.pinned (OpenSpec.ofChange atomicCutsSpec)

/-- ITS FALSE NEIGHBOUR: 'it returns false'. Refute it at one input. -/
def atomicCutsWrong : ChangeSpec := { name := "atomicCuts", fn := fun _ => fun
  | [d1, d2, d3] => { results := [.lit (.bool false)], args := [d1, d2, d3] }
  | _ => none }
def AtomicCutsWrongFalsely : Prop := atomicCutsRow.holds Try.pinned (OpenSpec.ofChange atomicCutsWrong)

/-- 'ringdovelaw.OrderExplains': WHATEVER THE INPUT: true; the input reads as it did. -/
def orderExplainsSpec : ChangeSpec := { name := "orderExplains", fn := fun _ => fun
  | [d1, d2] => { results := [.lit (.bool true)], args := [d1, d2] }
  | _ => none }
def orderExplainsRow : OpenClaim := { program := "ytffhfpdmfegcpab", sum := "d8734e23e596c86b88af647f8ed65421b6976628102523c556e315d87b32595b", func := "ringdove/ringdovelaw.OrderExplains", spec := "orderExplains", unfollowed := true, recurses := true, plainKeys := false, apart := false }
def OrderExplainsSaid : Prop := orderExplainsRow.holds Try.pinned (OpenSpec.ofChange orderExplainsSpec)

/-- ITS FALSE NEIGHBOUR: 'it returns false'. Refute it at one input. -/
def orderExplainsWrong : ChangeSpec := { name := "orderExplains", fn := fun _ => fun
  | [d1, d2] => { results := [.lit (.bool false)], args := [d1, d2] }
  | _ => none }
def OrderExplainsWrongFalsely : Prop := orderExplainsRow.holds Try.pinned (OpenSpec.ofChange orderExplainsWrong)

/-- 'ringdovekeep.StateOne': WHATEVER THE INPUT: true; the input reads as it did. -/
def stateOneSpec : ChangeSpec := { name := "stateOne", fn := fun _ => fun
  | [d1, d2] => { results := [.lit (.bool true)], args := [d1, d2] }
  | _ => none }
def stateOneRow : OpenClaim := { program := "ytffhfpdmfegcpab", sum := "d8734e23e596c86b88af647f8ed65421b6976628102523c556e315d87b32595b", func := "ringdove/ringdovekeep.StateOne", spec := "stateOne", inPlace := ["internal/bytealg.IndexByteString", "internal/bytealg.IndexString"], named := ["internal/bytealg.MaxLen"], plainKeys := false, apart := false }
def StateOneSaid : Prop := stateOneRow.holds Try.pinned (OpenSpec.ofChange stateOneSpec)

/-- ITS FALSE NEIGHBOUR: 'it returns false'. Refute it at one input. -/
def stateOneWrong : ChangeSpec := { name := "stateOne", fn := fun _ => fun
  | [d1, d2] => { results := [.lit (.bool false)], args := [d1, d2] }
  | _ => none }
def StateOneWrongFalsely : Prop := stateOneRow.holds Try.pinned (OpenSpec.ofChange stateOneWrong)

/- THE SECOND FORM. 'bulk': how many values and letters a reading holds, each counted each time it is reached (what is shared counts as often as it is met; a slice's spare places count too). A statement '..UptoSaid' is the law's where the arguments, and the package variables that the reading takes, are together of bulk at most 1048576: NARROWER than '..Said'. Prove '..Said' where nothing that the law and all that it calls make is longer than what came in: it says more and counts as full. Else prove '..UptoSaid'. A law counts once. -/
mutual
def uptoBulk {H : Type} : DataW H → Nat
  | .lit (.string bytes) => bytes.length + 1
  | .lit _ => 1
  | .nil => 1
  | .ptr d => uptoBulk d + 1
  | .slice elems spare => uptoBulkAll elems + uptoBulkAll spare + 1
  | .agg parts => uptoBulkAll parts + 1
  | .iface _ d => uptoBulk d + 1
  | .map entries => uptoBulkEntries entries + 1
  | .held _ => 1
def uptoBulkAll {H : Type} : List (DataW H) → Nat
  | [] => 0
  | d :: r => uptoBulk d + uptoBulkAll r
def uptoBulkEntries {H : Type} : List (Lit × DataW H) → Nat
  | [] => 0
  | x :: r => uptoBulkEntry x + uptoBulkEntries r
def uptoBulkEntry {H : Type} : Lit × DataW H → Nat
  | (.string bytes, d) => bytes.length + uptoBulk d + 1
  | (_, d) => uptoBulk d + 1
 end
def uptoSmall : (H : Type) → List (DataW H) → Bool := fun _ ds => decide (uptoBulkAll ds ≤ 1048576)
def OpenSpec.upto (s : _root_.Go.ChangeSpec) : _root_.Go.OpenSpec := { _root_.Go.OpenSpec.ofChange s with cond := some uptoSmall }

/-- 'ringdovelaw.BankTells', WHERE WHAT IT READS IS OF BULK AT MOST 1048576: true; the input reads as it did. -/
def bankTellsUptoRow : OpenClaim := { program := "ytffhfpdmfegcpab", sum := "d8734e23e596c86b88af647f8ed65421b6976628102523c556e315d87b32595b", func := "ringdove/ringdovelaw.BankTells", spec := "bankTells", plainKeys := false, apart := false, narrowed := true }
def BankTellsUptoSaid : Prop := bankTellsUptoRow.holds Try.pinned (OpenSpec.upto bankTellsSpec)

/-- 'ringdovekeep.TallyCounts', WHERE WHAT IT READS IS OF BULK AT MOST 1048576: true; the input reads as it did. -/
def tallyCountsUptoRow : OpenClaim := { program := "ytffhfpdmfegcpab", sum := "d8734e23e596c86b88af647f8ed65421b6976628102523c556e315d87b32595b", func := "ringdove/ringdovekeep.TallyCounts", spec := "tallyCounts", plainKeys := false, apart := false, narrowed := true }
def TallyCountsUptoSaid : Prop := tallyCountsUptoRow.holds Try.pinned (OpenSpec.upto tallyCountsSpec)

/-- 'ringdovelaw.AtomicTells', WHERE WHAT IT READS IS OF BULK AT MOST 1048576: true; the input reads as it did. -/
def atomicTellsUptoRow : OpenClaim := { program := "ytffhfpdmfegcpab", sum := "d8734e23e596c86b88af647f8ed65421b6976628102523c556e315d87b32595b", func := "ringdove/ringdovelaw.AtomicTells", spec := "atomicTells", plainKeys := false, apart := false, narrowed := true }
def AtomicTellsUptoSaid : Prop := atomicTellsUptoRow.holds Try.pinned (OpenSpec.upto atomicTellsSpec)

/-- 'ringdovekeep.ProgMerges', WHERE WHAT IT READS IS OF BULK AT MOST 1048576: true; the input reads as it did. -/
def progMergesUptoRow : OpenClaim := { program := "ytffhfpdmfegcpab", sum := "d8734e23e596c86b88af647f8ed65421b6976628102523c556e315d87b32595b", func := "ringdove/ringdovekeep.ProgMerges", spec := "progMerges", plainKeys := false, apart := false, narrowed := true }
def ProgMergesUptoSaid : Prop := progMergesUptoRow.holds Try.pinned (OpenSpec.upto progMergesSpec)

/-- 'ringdovelaw.OrderTells', WHERE WHAT IT READS IS OF BULK AT MOST 1048576: true; the input reads as it did. -/
def orderTellsUptoRow : OpenClaim := { program := "ytffhfpdmfegcpab", sum := "d8734e23e596c86b88af647f8ed65421b6976628102523c556e315d87b32595b", func := "ringdove/ringdovelaw.OrderTells", spec := "orderTells", plainKeys := false, apart := false, narrowed := true }
def OrderTellsUptoSaid : Prop := orderTellsUptoRow.holds Try.pinned (OpenSpec.upto orderTellsSpec)

/-- 'ringdovekeep.CacheLines', WHERE WHAT IT READS IS OF BULK AT MOST 1048576: true; the input reads as it did. -/
def cacheLinesUptoRow : OpenClaim := { program := "ytffhfpdmfegcpab", sum := "d8734e23e596c86b88af647f8ed65421b6976628102523c556e315d87b32595b", func := "ringdove/ringdovekeep.CacheLines", spec := "cacheLines", unfollowed := true, recurses := true, plainKeys := false, apart := false, narrowed := true }
def CacheLinesUptoSaid : Prop := cacheLinesUptoRow.holds Try.pinned (OpenSpec.upto cacheLinesSpec)

/-- 'ringdovelaw.ProgTells', WHERE WHAT IT READS IS OF BULK AT MOST 1048576: true; the input reads as it did. -/
def progTellsUptoRow : OpenClaim := { program := "ytffhfpdmfegcpab", sum := "d8734e23e596c86b88af647f8ed65421b6976628102523c556e315d87b32595b", func := "ringdove/ringdovelaw.ProgTells", spec := "progTells", unfollowed := true, recurses := true, plainKeys := false, apart := false, narrowed := true }
def ProgTellsUptoSaid : Prop := progTellsUptoRow.holds Try.pinned (OpenSpec.upto progTellsSpec)

/-- 'ringdovelaw.TallyTells', WHERE WHAT IT READS IS OF BULK AT MOST 1048576: true; the input reads as it did. -/
def tallyTellsUptoRow : OpenClaim := { program := "ytffhfpdmfegcpab", sum := "d8734e23e596c86b88af647f8ed65421b6976628102523c556e315d87b32595b", func := "ringdove/ringdovelaw.TallyTells", spec := "tallyTells", plainKeys := false, apart := false, narrowed := true }
def TallyTellsUptoSaid : Prop := tallyTellsUptoRow.holds Try.pinned (OpenSpec.upto tallyTellsSpec)

/-- 'ringdovekeep.AtomicCuts', WHERE WHAT IT READS IS OF BULK AT MOST 1048576: true; the input reads as it did. -/
def atomicCutsUptoRow : OpenClaim := { program := "ytffhfpdmfegcpab", sum := "d8734e23e596c86b88af647f8ed65421b6976628102523c556e315d87b32595b", func := "ringdove/ringdovekeep.AtomicCuts", spec := "atomicCuts", unfollowed := true, recurses := true, plainKeys := false, apart := false, narrowed := true }
def AtomicCutsUptoSaid : Prop := atomicCutsUptoRow.holds Try.pinned (OpenSpec.upto atomicCutsSpec)

/-- 'ringdovelaw.OrderExplains', WHERE WHAT IT READS IS OF BULK AT MOST 1048576: true; the input reads as it did. -/
def orderExplainsUptoRow : OpenClaim := { program := "ytffhfpdmfegcpab", sum := "d8734e23e596c86b88af647f8ed65421b6976628102523c556e315d87b32595b", func := "ringdove/ringdovelaw.OrderExplains", spec := "orderExplains", unfollowed := true, recurses := true, plainKeys := false, apart := false, narrowed := true }
def OrderExplainsUptoSaid : Prop := orderExplainsUptoRow.holds Try.pinned (OpenSpec.upto orderExplainsSpec)

/-- 'ringdovekeep.StateOne', WHERE WHAT IT READS IS OF BULK AT MOST 1048576: true; the input reads as it did. -/
def stateOneUptoRow : OpenClaim := { program := "ytffhfpdmfegcpab", sum := "d8734e23e596c86b88af647f8ed65421b6976628102523c556e315d87b32595b", func := "ringdove/ringdovekeep.StateOne", spec := "stateOne", inPlace := ["internal/bytealg.IndexByteString", "internal/bytealg.IndexString"], named := ["internal/bytealg.MaxLen"], plainKeys := false, apart := false, narrowed := true }
def StateOneUptoSaid : Prop := stateOneUptoRow.holds Try.pinned (OpenSpec.upto stateOneSpec)

end Rows
end Go.Proofs.Ytffhfpdmfegcpab
