/- The contract of bank.Same: the addresses at which two memories differ. -/
import Derived.Test.YtffhfpdmfegcpacBank
import Derived.Lib.SmallJoins
namespace Go.Proofs.Ytffhfpdmfegcpac.bankSame
open Go.ChangeShapes Go.WideShapes Go.ChangeAt Go.RowKit
open Go.Joins (ownsRow_le)
open Go.Proofs.Ytffhfpdmfegcpac.base Go.Proofs.Ytffhfpdmfegcpac.flat Go.Proofs.Ytffhfpdmfegcpac.same Go.Proofs.Ytffhfpdmfegcpac.words Go.Proofs.Ytffhfpdmfegcpac.addr Go.Proofs.Ytffhfpdmfegcpac.bank
set_option linter.unusedVariables false
set_option linter.unusedSimpArgs false

/-- the addresses below k at which the two differ -/
def diffs (xs ys : List Int) : Nat → List Int
  | 0 => []
  | k + 1 => diffs xs ys k ++ (if wordV xs k = wordV ys k then [] else [(k : Int)])
theorem diffs_eq {xs ys : List Int} {k : Nat} (h : wordV xs k = wordV ys k) : diffs xs ys (k + 1) = diffs xs ys k := by simp [diffs, h]
theorem diffs_ne {xs ys : List Int} {k : Nat} (h : ¬ wordV xs k = wordV ys k) : diffs xs ys (k + 1) = diffs xs ys k ++ [(k : Int)] := by simp [diffs, h]
theorem diffs_len (xs ys : List Int) : ∀ k, (diffs xs ys k).length ≤ k
  | 0 => Nat.le_refl _
  | k + 1 => by
    have := diffs_len xs ys k
    by_cases h : wordV xs k = wordV ys k
    · rw [diffs_eq h]; omega
    · rw [diffs_ne h, List.length_append]; simp; omega

theorem info_int : (Try.prog.info? 3).map (fun i => (i.zero, i.size, i.bytes)) = some (some (.int .i64 0), 1, 8) := by kernel_rfl
theorem one_new {W : World} {v : Value} {t : TypeId} {g : Nat} (hg : g = W.heap.size) : ∀ (j : Nat) (u : Value), [v][j]? = some u → (W.alloc (.cells #[v] t)).cell? ((⟨g, 0, none⟩ : Addr).add j) = some u := by
  intro j u h
  subst hg
  cases j with
  | zero => simp at h; subst h; simp [Addr.add]
  | succ j => simp at h

/-- a slice of int of the call's own comes back -/
def RetInts (xs : List Int) (w : World) (e : Ending) (w' : World) : Prop :=
  ∃ v, e = .returned v ∧ w'.ownsRow w.heap.size 3 1 v xs.length (xs.map (Value.int .i64)) ∧ Below w.heap.size w w'

end Go.Proofs.Ytffhfpdmfegcpac.bankSame
