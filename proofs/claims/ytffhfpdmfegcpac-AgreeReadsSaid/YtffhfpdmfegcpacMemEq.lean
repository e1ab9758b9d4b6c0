/- Equality of two memories: it is the equality of their words. -/
import Derived.Test.YtffhfpdmfegcpacAtomicDo
namespace Go.Proofs.Ytffhfpdmfegcpac.memEq
open Go.ChangeShapes Go.WideShapes Go.ChangeAt Go.RowKit
open Go.Proofs.Ytffhfpdmfegcpac.base Go.Proofs.Ytffhfpdmfegcpac.flat Go.Proofs.Ytffhfpdmfegcpac.same Go.Proofs.Ytffhfpdmfegcpac.bank Go.Proofs.Ytffhfpdmfegcpac.atomic
set_option linter.unusedVariables false
set_option linter.unusedSimpArgs false

/-- all are words -/
def AllU (xs : List Int) : Prop := ∀ x ∈ xs, (Lit.int .u64 x).wf = true
theorem allW_mem {xs : List Int} (h : ∀ x ∈ xs, (Lit.int .u64 x).wf = true) : AllW (List.replicate xs.length (.int .u64)) (xs.map (Value.int .u64)) := by
  induction xs with
  | nil => trivial
  | cons x xs ih => exact ⟨⟨x, rfl, h x (by simp)⟩, ih (fun y hy => h y (by simp [hy]))⟩
theorem run_eq_mem (w : World) (xs ys : List Int) (hx : xs.length = 64) (hy : ys.length = 64) (wx : AllU xs) (wy : AllU ys) :
    (Op.equalIn 10000 26 (.agg (memA xs)) (.agg (memA ys))).run Try.prog w = .ok (eqv (xs.map (Value.int .u64)) (ys.map (Value.int .u64))) w :=
  run_equalIn_flat w 4 _ (List.replicate 64 (.int .u64)) (by kernel_rfl) (by kernel_rfl) (by kernel_rfl) (by omega) (.inr ⟨_, _, Try.underlying26⟩) _ _ (by have := allW_mem wx; rwa [hx] at this) (by have := allW_mem wy; rwa [hy] at this)
theorem run_same_mem (xs : List Int) (hx : xs.length = 64) (wx : AllU xs) :
    ∀ w, (Op.equalIn 10000 26 (.agg (memA xs)) (.agg (memA xs))).run Try.prog w = .ok true w := fun w => by
  rw [run_eq_mem w xs xs hx hx wx wx, eqv_true rfl]
theorem zeroXs_wf : AllU zeroXs := by unfold AllU; decide
theorem plainM_wf {xs : List Int} (h : AllU xs) (k a : Int) {v : Int} (hv : (Lit.int .u64 v).wf = true) : AllU (plainM xs k a v) := by
  unfold plainM
  split
  · intro x hx
    rcases List.mem_or_eq_of_mem_set hx with h1 | h1
    · exact h x h1
    · subst h1; exact hv
  · exact h
end Go.Proofs.Ytffhfpdmfegcpac.memEq
