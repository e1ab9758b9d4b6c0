/- The contract of atomic.Play for every list of deeds. -/
import Derived.Test.YtffhfpdmfegcpacPlayOk
namespace Go.Proofs.Ytffhfpdmfegcpac.play
open Go.ChangeShapes Go.WideShapes Go.ChangeAt Go.RowKit
open Go.Proofs.Ytffhfpdmfegcpac.base Go.Proofs.Ytffhfpdmfegcpac.flat Go.Proofs.Ytffhfpdmfegcpac.same Go.Proofs.Ytffhfpdmfegcpac.addr Go.Proofs.Ytffhfpdmfegcpac.bank Go.Proofs.Ytffhfpdmfegcpac.bankSame Go.Proofs.Ytffhfpdmfegcpac.atomic Go.Proofs.Ytffhfpdmfegcpac.table
set_option linter.unusedVariables false
set_option linter.unusedSimpArgs false

/-- a memory, a slice of uint64 of the call's own and a number come back -/
def RetPlayE (ys vs : List Int) (x : Int) (w : World) (e : Ending) (w' : World) : Prop :=
  ∃ v, e = .returned (.tuple #[.agg (memA ys), v, .int .i64 x]) ∧ w'.ownsRow w.heap.size 22 1 v vs.length (vs.map (Value.int .u64)) ∧ Below w.heap.size w w'

def playE (ds : List D4) : Int := if 200 < ds.length then 2 else firstBad ds
def outM (xs : List Int) (ds : List D4) : List Int := if playE ds = 0 then playM xs ds else zeroXs
def outV (xs : List Int) (ds : List D4) : List Int := if playE ds = 0 then playV xs ds else []
theorem outV_len (xs : List Int) (ds : List D4) : (outV xs ds).length ≤ 200 := by
  unfold outV
  split
  · rename_i h
    unfold playE at h
    split at h
    · omega
    · rw [playV_len]; omega
  · simp
theorem outM_len {xs : List Int} (hl : xs.length = 64) (ds : List D4) : (outM xs ds).length = 64 := by
  unfold outM
  split
  · rw [playM_len, hl]
  · exact zeroXs_len

theorem play_any (xs : List Int) (hl : xs.length = 64) (ds : List D4) (a : Option Addr) (n c : Nat) (w : World) (hm : n ≤ maxLen) (hd : ds.length = n) (h : DeedsAt w a ds) :
    Calls Try.prog 11 #[.agg (memA xs), .slice a n c] w (RetPlayE (outM xs ds) (outV xs ds) (playE ds) w) := by
  by_cases hn : 200 < n
  · have e : playE ds = 2 := by unfold playE; rw [if_pos (by omega)]
    unfold outM outV
    rw [e, if_neg (by omega), if_neg (by omega)]
    exact (play_large xs hl a n c w hn hm).mono fun _ _ ⟨he, hb⟩ => ⟨_, he, World.ownsRow_nil _ _ _ _, hb⟩
  · have e : playE ds = firstBad ds := by unfold playE; rw [if_neg (by omega)]
    unfold outM outV
    rw [e]
    by_cases hb : firstBad ds = 0
    · rw [if_pos hb, if_pos hb, hb]
      exact play_ok xs hl ds a n c w (by omega) hd h hb
    · rw [if_neg hb, if_neg hb]
      exact (play_bad xs hl ds a n c w (by omega) hd h hb).mono fun _ _ ⟨he, hb⟩ => ⟨_, he, World.ownsRow_nil _ _ _ _, hb⟩
end Go.Proofs.Ytffhfpdmfegcpac.play
