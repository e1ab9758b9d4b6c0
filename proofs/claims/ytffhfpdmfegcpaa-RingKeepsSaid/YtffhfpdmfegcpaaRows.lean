/-
  No cell of these rows narrows 'for every input' (looked for: loops, veiled, ifaces, maps, wideKeys, modest, calm, conditions, laid).
  DERIVED. THE GIVEN ROWS OF THIS SEAT. 11 by the template 'for every input the law returns true; each argument reads behind the call as it read before'; 0 by the template 'total and deterministic' (their statements: YtffhfpdmfegcpaaTotals.lean).
  GIVEN WITH THE SEED: the statements are not yours to turn. If you find one false, say at which input.
  Laid BY PROGRAM, IN A SANDBOX (cutbox-rows.mjs): the forced cells as the released guide's own fill.sh prints them over the translation ccb7cca130bb17c8… (all of the seat's roots in one cut). By AI agents, Wed Nov 11 2026. No macro, syntax, notation, axiom, sorry.
-/
import Derived.Test.YtffhfpdmfegcpaaChecked
import GoSem.Claim
import GoSem.ClaimJoined
import GoSem.ClaimMapViews
import Derived.JoinedTies
import Derived.KernelRfl
namespace Go.Proofs.Ytffhfpdmfegcpaa
/- THE CELL 'sum', in the pinned program and in every row, IS THE sha256 OF THE DUMP (.gsa) THAT YtffhfpdmfegcpaaProg.lean LOADS. Nothing in Lean hashes anything: it is a label: what it is worth is what the hold of that sum in a sandbox is worth. -/
noncomputable def Try.pinned : Pinned := { name := "ytffhfpdmfegcpaa", sum := "ccb7cca130bb17c86c2657db7ad442d15449d936b4b2a943107e9de6e6fd4b32", checked := Try.checked }
namespace Rows
def none {H : Type} : Left H := { results := [], args := [] }

/-- 'ringdovelaw.Names': WHATEVER THE INPUT: true; the input reads as it did. -/
def namesSpec : ChangeSpec := { name := "names", fn := fun _ => fun
  | [] => { results := [.lit (.bool true)], args := [] }
  | _ => none }
def namesRow : OpenClaim := { program := "ytffhfpdmfegcpaa", sum := "ccb7cca130bb17c86c2657db7ad442d15449d936b4b2a943107e9de6e6fd4b32", func := "ringdove/ringdovelaw.Names", spec := "names", apart := false }
def NamesSaid : Prop := namesRow.holds Try.pinned (OpenSpec.ofChange namesSpec)

/-- ITS FALSE NEIGHBOUR: 'it returns false'. Refute it at one input. -/
def namesWrong : ChangeSpec := { name := "names", fn := fun _ => fun
  | [] => { results := [.lit (.bool false)], args := [] }
  | _ => none }
def NamesWrongFalsely : Prop := namesRow.holds Try.pinned (OpenSpec.ofChange namesWrong)

/-- 'ringdovekeep.WordsBack': WHATEVER THE INPUT: true; the input reads as it did. -/
def wordsBackSpec : ChangeSpec := { name := "wordsBack", fn := fun _ => fun
  | [d1, d2] => { results := [.lit (.bool true)], args := [d1, d2] }
  | _ => none }
def wordsBackRow : OpenClaim := { program := "ytffhfpdmfegcpaa", sum := "ccb7cca130bb17c86c2657db7ad442d15449d936b4b2a943107e9de6e6fd4b32", func := "ringdove/ringdovekeep.WordsBack", spec := "wordsBack", apart := false }
def WordsBackSaid : Prop := wordsBackRow.holds Try.pinned (OpenSpec.ofChange wordsBackSpec)

/-- ITS FALSE NEIGHBOUR: 'it returns false'. Refute it at one input. -/
def wordsBackWrong : ChangeSpec := { name := "wordsBack", fn := fun _ => fun
  | [d1, d2] => { results := [.lit (.bool false)], args := [d1, d2] }
  | _ => none }
def WordsBackWrongFalsely : Prop := wordsBackRow.holds Try.pinned (OpenSpec.ofChange wordsBackWrong)

/-- 'ringdovekeep.WordsReads': WHATEVER THE INPUT: true; the input reads as it did. -/
def wordsReadsSpec : ChangeSpec := { name := "wordsReads", fn := fun _ => fun
  | [d1, d2, d3, d4] => { results := [.lit (.bool true)], args := [d1, d2, d3, d4] }
  | _ => none }
def wordsReadsRow : OpenClaim := { program := "ytffhfpdmfegcpaa", sum := "ccb7cca130bb17c86c2657db7ad442d15449d936b4b2a943107e9de6e6fd4b32", func := "ringdove/ringdovekeep.WordsReads", spec := "wordsReads", unfollowed := true, recurses := true, apart := false }
def WordsReadsSaid : Prop := wordsReadsRow.holds Try.pinned (OpenSpec.ofChange wordsReadsSpec)

/-- ITS FALSE NEIGHBOUR: 'it returns false'. Refute it at one input. -/
def wordsReadsWrong : ChangeSpec := { name := "wordsReads", fn := fun _ => fun
  | [d1, d2, d3, d4] => { results := [.lit (.bool false)], args := [d1, d2, d3, d4] }
  | _ => none }
def WordsReadsWrongFalsely : Prop := wordsReadsRow.holds Try.pinned (OpenSpec.ofChange wordsReadsWrong)

/-- 'ringdovelaw.AddrTells': WHATEVER THE INPUT: true; the input reads as it did. -/
def addrTellsSpec : ChangeSpec := { name := "addrTells", fn := fun _ => fun
  | [d1, d2, d3, d4, d5] => { results := [.lit (.bool true)], args := [d1, d2, d3, d4, d5] }
  | _ => none }
def addrTellsRow : OpenClaim := { program := "ytffhfpdmfegcpaa", sum := "ccb7cca130bb17c86c2657db7ad442d15449d936b4b2a943107e9de6e6fd4b32", func := "ringdove/ringdovelaw.AddrTells", spec := "addrTells", apart := false }
def AddrTellsSaid : Prop := addrTellsRow.holds Try.pinned (OpenSpec.ofChange addrTellsSpec)

/-- ITS FALSE NEIGHBOUR: 'it returns false'. Refute it at one input. -/
def addrTellsWrong : ChangeSpec := { name := "addrTells", fn := fun _ => fun
  | [d1, d2, d3, d4, d5] => { results := [.lit (.bool false)], args := [d1, d2, d3, d4, d5] }
  | _ => none }
def AddrTellsWrongFalsely : Prop := addrTellsRow.holds Try.pinned (OpenSpec.ofChange addrTellsWrong)

/-- 'ringdovekeep.AddrRound': WHATEVER THE INPUT: true; the input reads as it did. -/
def addrRoundSpec : ChangeSpec := { name := "addrRound", fn := fun _ => fun
  | [d1, d2, d3, d4] => { results := [.lit (.bool true)], args := [d1, d2, d3, d4] }
  | _ => none }
def addrRoundRow : OpenClaim := { program := "ytffhfpdmfegcpaa", sum := "ccb7cca130bb17c86c2657db7ad442d15449d936b4b2a943107e9de6e6fd4b32", func := "ringdove/ringdovekeep.AddrRound", spec := "addrRound", unfollowed := true, recurses := true, apart := false }
def AddrRoundSaid : Prop := addrRoundRow.holds Try.pinned (OpenSpec.ofChange addrRoundSpec)

/-- ITS FALSE NEIGHBOUR: 'it returns false'. Refute it at one input. -/
def addrRoundWrong : ChangeSpec := { name := "addrRound", fn := fun _ => fun
  | [d1, d2, d3, d4] => { results := [.lit (.bool false)], args := [d1, d2, d3, d4] }
  | _ => none }
def AddrRoundWrongFalsely : Prop := addrRoundRow.holds Try.pinned (OpenSpec.ofChange addrRoundWrong)

/-- 'ringdovelaw.WordsTells': WHATEVER THE INPUT: true; the input reads as it did. -/
def wordsTellsSpec : ChangeSpec := { name := "wordsTells", fn := fun _ => fun
  | [d1, d2, d3, d4] => { results := [.lit (.bool true)], args := [d1, d2, d3, d4] }
  | _ => none }
def wordsTellsRow : OpenClaim := { program := "ytffhfpdmfegcpaa", sum := "ccb7cca130bb17c86c2657db7ad442d15449d936b4b2a943107e9de6e6fd4b32", func := "ringdove/ringdovelaw.WordsTells", spec := "wordsTells", apart := false }
def WordsTellsSaid : Prop := wordsTellsRow.holds Try.pinned (OpenSpec.ofChange wordsTellsSpec)

/-- ITS FALSE NEIGHBOUR: 'it returns false'. Refute it at one input. -/
def wordsTellsWrong : ChangeSpec := { name := "wordsTells", fn := fun _ => fun
  | [d1, d2, d3, d4] => { results := [.lit (.bool false)], args := [d1, d2, d3, d4] }
  | _ => none }
def WordsTellsWrongFalsely : Prop := wordsTellsRow.holds Try.pinned (OpenSpec.ofChange wordsTellsWrong)

/-- 'ringdovelaw.PlruTells': WHATEVER THE INPUT: true; the input reads as it did. -/
def plruTellsSpec : ChangeSpec := { name := "plruTells", fn := fun _ => fun
  | [d1, d2, d3] => { results := [.lit (.bool true)], args := [d1, d2, d3] }
  | _ => none }
def plruTellsRow : OpenClaim := { program := "ytffhfpdmfegcpaa", sum := "ccb7cca130bb17c86c2657db7ad442d15449d936b4b2a943107e9de6e6fd4b32", func := "ringdove/ringdovelaw.PlruTells", spec := "plruTells", unfollowed := true, recurses := true, apart := false }
def PlruTellsSaid : Prop := plruTellsRow.holds Try.pinned (OpenSpec.ofChange plruTellsSpec)

/-- ITS FALSE NEIGHBOUR: 'it returns false'. Refute it at one input. -/
def plruTellsWrong : ChangeSpec := { name := "plruTells", fn := fun _ => fun
  | [d1, d2, d3] => { results := [.lit (.bool false)], args := [d1, d2, d3] }
  | _ => none }
def PlruTellsWrongFalsely : Prop := plruTellsRow.holds Try.pinned (OpenSpec.ofChange plruTellsWrong)

/-- 'ringdovekeep.RingKeeps': WHATEVER THE INPUT: true; the input reads as it did. -/
def ringKeepsSpec : ChangeSpec := { name := "ringKeeps", fn := fun _ => fun
  | [d1, d2] => { results := [.lit (.bool true)], args := [d1, d2] }
  | _ => none }
def ringKeepsRow : OpenClaim := { program := "ytffhfpdmfegcpaa", sum := "ccb7cca130bb17c86c2657db7ad442d15449d936b4b2a943107e9de6e6fd4b32", func := "ringdove/ringdovekeep.RingKeeps", spec := "ringKeeps", unfollowed := true, recurses := true, apart := false }
def RingKeepsSaid : Prop := ringKeepsRow.holds Try.pinned (OpenSpec.ofChange ringKeepsSpec)

/-- ITS FALSE NEIGHBOUR: 'it returns false'. Refute it at one input. -/
def ringKeepsWrong : ChangeSpec := { name := "ringKeeps", fn := fun _ => fun
  | [d1, d2] => { results := [.lit (.bool false)], args := [d1, d2] }
  | _ => none }
def RingKeepsWrongFalsely : Prop := ringKeepsRow.holds Try.pinned (OpenSpec.ofChange ringKeepsWrong)

/-- 'ringdovekeep.PlruSpares': WHATEVER THE INPUT: true; the input reads as it did. -/
def plruSparesSpec : ChangeSpec := { name := "plruSpares", fn := fun _ => fun
  | [d1, d2, d3] => { results := [.lit (.bool true)], args := [d1, d2, d3] }
  | _ => none }
def plruSparesRow : OpenClaim := { program := "ytffhfpdmfegcpaa", sum := "ccb7cca130bb17c86c2657db7ad442d15449d936b4b2a943107e9de6e6fd4b32", func := "ringdove/ringdovekeep.PlruSpares", spec := "plruSpares", unfollowed := true, recurses := true, apart := false }
def PlruSparesSaid : Prop := plruSparesRow.holds Try.pinned (OpenSpec.ofChange plruSparesSpec)

/-- ITS FALSE NEIGHBOUR: 'it returns false'. Refute it at one input. -/
def plruSparesWrong : ChangeSpec := { name := "plruSpares", fn := fun _ => fun
  | [d1, d2, d3] => { results := [.lit (.bool false)], args := [d1, d2, d3] }
  | _ => none }
def PlruSparesWrongFalsely : Prop := plruSparesRow.holds Try.pinned (OpenSpec.ofChange plruSparesWrong)

/-- 'ringdovekeep.PlruTurns': WHATEVER THE INPUT: true; the input reads as it did. -/
def plruTurnsSpec : ChangeSpec := { name := "plruTurns", fn := fun _ => fun
  | [d1, d2] => { results := [.lit (.bool true)], args := [d1, d2] }
  | _ => none }
def plruTurnsRow : OpenClaim := { program := "ytffhfpdmfegcpaa", sum := "ccb7cca130bb17c86c2657db7ad442d15449d936b4b2a943107e9de6e6fd4b32", func := "ringdove/ringdovekeep.PlruTurns", spec := "plruTurns", unfollowed := true, recurses := true, apart := false }
def PlruTurnsSaid : Prop := plruTurnsRow.holds Try.pinned (OpenSpec.ofChange plruTurnsSpec)

/-- ITS FALSE NEIGHBOUR: 'it returns false'. Refute it at one input. -/
def plruTurnsWrong : ChangeSpec := { name := "plruTurns", fn := fun _ => fun
  | [d1, d2] => { results := [.lit (.bool false)], args := [d1, d2] }
  | _ => none }
def PlruTurnsWrongFalsely : Prop := plruTurnsRow.holds Try.pinned (OpenSpec.ofChange plruTurnsWrong)

/-- 'ringdovekeep.BankReads': WHATEVER THE INPUT: true; the input reads as it did. -/
def bankReadsSpec : ChangeSpec := { name := "bankReads", fn := fun _ => fun
  | [d1, d2, d3] => { results := [.lit (.bool true)], args := [d1, d2, d3] }
  | _ => none }
def bankReadsRow : OpenClaim := { program := "ytffhfpdmfegcpaa", sum := "ccb7cca130bb17c86c2657db7ad442d15449d936b4b2a943107e9de6e6fd4b32", func := "ringdove/ringdovekeep.BankReads", spec := "bankReads", unfollowed := true, recurses := true, apart := false }
def BankReadsSaid : Prop := bankReadsRow.holds Try.pinned (OpenSpec.ofChange bankReadsSpec)

/-- ITS FALSE NEIGHBOUR: 'it returns false'. Refute it at one input. -/
def bankReadsWrong : ChangeSpec := { name := "bankReads", fn := fun _ => fun
  | [d1, d2, d3] => { results := [.lit (.bool false)], args := [d1, d2, d3] }
  | _ => none }
def BankReadsWrongFalsely : Prop := bankReadsRow.holds Try.pinned (OpenSpec.ofChange bankReadsWrong)

/- THE SECOND FORM. 'bulk': how many values and letters a reading holds, each counted each time it is reached (what is shared counts as often as it is met; a slice's spare places count too). A statement '..UptoSaid' is the law's where the arguments, and the package variables that the reading takes, are together of bulk at most 1048576: NARROWER than '..Said'. Prove '..Said' where nothing that the law and all that it calls make is longer than what came in: it says more and counts as full. Else prove '..UptoSaid'. A law counts once. -/
mutual
def uptoBulk {H : Type} : DataW H → Nat
  | .lit (.string bytes) => bytes.length + 1
  | .lit _ => 1
  | .nil => 1
  | .ptr d => uptoBulk d + 1
  | .slice elems spare => uptoBulkAll elems + uptoBulkAll spare + 1
  | .agg parts => uptoBulkAll parts + 1
  | .iface _ d => uptoBulk d + 1
  | .map entries => uptoBulkEntries entries + 1
  | .held _ => 1
def uptoBulkAll {H : Type} : List (DataW H) → Nat
  | [] => 0
  | d :: r => uptoBulk d + uptoBulkAll r
def uptoBulkEntries {H : Type} : List (Lit × DataW H) → Nat
  | [] => 0
  | x :: r => uptoBulkEntry x + uptoBulkEntries r
def uptoBulkEntry {H : Type} : Lit × DataW H → Nat
  | (.string bytes, d) => bytes.length + uptoBulk d + 1
  | (_, d) => uptoBulk d + 1
 end
def uptoSmall : (H : Type) → List (DataW H) → Bool := fun _ ds => decide (uptoBulkAll ds ≤ 1048576)
def OpenSpec.upto (s : _root_.Go.ChangeSpec) : _root_.Go.OpenSpec := { _root_.Go.OpenSpec.ofChange s with cond := some uptoSmall }

/-- 'ringdovelaw.Names', WHERE WHAT IT READS IS OF BULK AT MOST 1048576: true; the input reads as it did. -/
def namesUptoRow : OpenClaim := { program := "ytffhfpdmfegcpaa", sum := "ccb7cca130bb17c86c2657db7ad442d15449d936b4b2a943107e9de6e6fd4b32", func := "ringdove/ringdovelaw.Names", spec := "names", apart := false, narrowed := true }
def NamesUptoSaid : Prop := namesUptoRow.holds Try.pinned (OpenSpec.upto namesSpec)

/-- 'ringdovekeep.WordsBack', WHERE WHAT IT READS IS OF BULK AT MOST 1048576: true; the input reads as it did. -/
def wordsBackUptoRow : OpenClaim := { program := "ytffhfpdmfegcpaa", sum := "ccb7cca130bb17c86c2657db7ad442d15449d936b4b2a943107e9de6e6fd4b32", func := "ringdove/ringdovekeep.WordsBack", spec := "wordsBack", apart := false, narrowed := true }
def WordsBackUptoSaid : Prop := wordsBackUptoRow.holds Try.pinned (OpenSpec.upto wordsBackSpec)

/-- 'ringdovekeep.WordsReads', WHERE WHAT IT READS IS OF BULK AT MOST 1048576: true; the input reads as it did. -/
def wordsReadsUptoRow : OpenClaim := { program := "ytffhfpdmfegcpaa", sum := "ccb7cca130bb17c86c2657db7ad442d15449d936b4b2a943107e9de6e6fd4b32", func := "ringdove/ringdovekeep.WordsReads", spec := "wordsReads", unfollowed := true, recurses := true, apart := false, narrowed := true }
def WordsReadsUptoSaid : Prop := wordsReadsUptoRow.holds Try.pinned (OpenSpec.upto wordsReadsSpec)

/-- 'ringdovelaw.AddrTells', WHERE WHAT IT READS IS OF BULK AT MOST 1048576: true; the input reads as it did. -/
def addrTellsUptoRow : OpenClaim := { program := "ytffhfpdmfegcpaa", sum := "ccb7cca130bb17c86c2657db7ad442d15449d936b4b2a943107e9de6e6fd4b32", func := "ringdove/ringdovelaw.AddrTells", spec := "addrTells", apart := false, narrowed := true }
def AddrTellsUptoSaid : Prop := addrTellsUptoRow.holds Try.pinned (OpenSpec.upto addrTellsSpec)

/-- 'ringdovekeep.AddrRound', WHERE WHAT IT READS IS OF BULK AT MOST 1048576: true; the input reads as it did. -/
def addrRoundUptoRow : OpenClaim := { program := "ytffhfpdmfegcpaa", sum := "ccb7cca130bb17c86c2657db7ad442d15449d936b4b2a943107e9de6e6fd4b32", func := "ringdove/ringdovekeep.AddrRound", spec := "addrRound", unfollowed := true, recurses := true, apart := false, narrowed := true }
def AddrRoundUptoSaid : Prop := addrRoundUptoRow.holds Try.pinned (OpenSpec.upto addrRoundSpec)

/-- 'ringdovelaw.WordsTells', WHERE WHAT IT READS IS OF BULK AT MOST 1048576: true; the input reads as it did. -/
def wordsTellsUptoRow : OpenClaim := { program := "ytffhfpdmfegcpaa", sum := "ccb7cca130bb17c86c2657db7ad442d15449d936b4b2a943107e9de6e6fd4b32", func := "ringdove/ringdovelaw.WordsTells", spec := "wordsTells", apart := false, narrowed := true }
def WordsTellsUptoSaid : Prop := wordsTellsUptoRow.holds Try.pinned (OpenSpec.upto wordsTellsSpec)

/-- 'ringdovelaw.PlruTells', WHERE WHAT IT READS IS OF BULK AT MOST 1048576: true; the input reads as it did. -/
def plruTellsUptoRow : OpenClaim := { program := "ytffhfpdmfegcpaa", sum := "ccb7cca130bb17c86c2657db7ad442d15449d936b4b2a943107e9de6e6fd4b32", func := "ringdove/ringdovelaw.PlruTells", spec := "plruTells", unfollowed := true, recurses := true, apart := false, narrowed := true }
def PlruTellsUptoSaid : Prop := plruTellsUptoRow.holds Try.pinned (OpenSpec.upto plruTellsSpec)

/-- 'ringdovekeep.RingKeeps', WHERE WHAT IT READS IS OF BULK AT MOST 1048576: true; the input reads as it did. -/
def ringKeepsUptoRow : OpenClaim := { program := "ytffhfpdmfegcpaa", sum := "ccb7cca130bb17c86c2657db7ad442d15449d936b4b2a943107e9de6e6fd4b32", func := "ringdove/ringdovekeep.RingKeeps", spec := "ringKeeps", unfollowed := true, recurses := true, apart := false, narrowed := true }
def RingKeepsUptoSaid : Prop := ringKeepsUptoRow.holds Try.pinned (OpenSpec.upto ringKeepsSpec)

/-- 'ringdovekeep.PlruSpares', WHERE WHAT IT READS IS OF BULK AT MOST 1048576: true; the input reads as it did. -/
def plruSparesUptoRow : OpenClaim := { program := "ytffhfpdmfegcpaa", sum := "ccb7cca130bb17c86c2657db7ad442d15449d936b4b2a943107e9de6e6fd4b32", func := "ringdove/ringdovekeep.PlruSpares", spec := "plruSpares", unfollowed := true, recurses := true, apart := false, narrowed := true }
def PlruSparesUptoSaid : Prop := plruSparesUptoRow.holds Try.pinned (OpenSpec.upto plruSparesSpec)

/-- 'ringdovekeep.PlruTurns', WHERE WHAT IT READS IS OF BULK AT MOST 1048576: true; the input reads as it did. -/
def plruTurnsUptoRow : OpenClaim := { program := "ytffhfpdmfegcpaa", sum := "ccb7cca130bb17c86c2657db7ad442d15449d936b4b2a943107e9de6e6fd4b32", func := "ringdove/ringdovekeep.PlruTurns", spec := "plruTurns", unfollowed := true, recurses := true, apart := false, narrowed := true }
def PlruTurnsUptoSaid : Prop := plruTurnsUptoRow.holds Try.pinned (OpenSpec.upto plruTurnsSpec)

/-- 'ringdovekeep.BankReads', WHERE WHAT IT READS IS OF BULK AT MOST 1048576: true; the input reads as it did. -/
def bankReadsUptoRow : OpenClaim := { program := "ytffhfpdmfegcpaa", sum := "ccb7cca130bb17c86c2657db7ad442d15449d936b4b2a943107e9de6e6fd4b32", func := "ringdove/ringdovekeep.BankReads", spec := "bankReads", unfollowed := true, recurses := true, apart := false, narrowed := true }
def BankReadsUptoSaid : Prop := bankReadsUptoRow.holds Try.pinned (OpenSpec.upto bankReadsSpec)

end Rows
end Go.Proofs.Ytffhfpdmfegcpaa
