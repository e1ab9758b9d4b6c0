/- The contract of ringdovekeep.good where all numbers are OK. -/
import Derived.Test.YtffhfpdmfegcpabKnob
namespace Go.Proofs.Ytffhfpdmfegcpab.goods
open Go.ChangeShapes Go.WideShapes Go.ChangeAt Go.RowKit
open Go.Proofs.Ytffhfpdmfegcpab.base
set_option linter.unusedVariables false
set_option linter.unusedSimpArgs false

set_option maxRecDepth 100000 in
theorem one_ok (w : World) : Calls Try.prog 79 #[.int .i64 0] w fun e w' => e = .returned (.bool false) ∧ w = w' := by
  go_enter Try.func79, Try.ntmps79
  go_wp2
  go_ret
  exact ⟨rfl, rfl⟩

set_option maxRecDepth 100000 in
theorem index_ok (b n c : Nat) (w : World) (hn : n ≤ maxLen) (hc : ∀ i, i < n → w.cell? ⟨b, i, none⟩ = some (.int .i64 0)) :
    Calls Try.prog 94 #[.slice (some ⟨b, 0, none⟩) n c, .func (.func 79) #[] #[]] w fun e w' => e = .returned (.int .i64 (-1)) ∧ w = w' := by
  unfold maxLen at hn
  have HC := Lib.hid hc
  clear hc
  go_enter Try.func94, Try.ntmps94
  go_wp2
  go_loop [8] (fun i => ∃ k : Nat, k ≤ n ∧ i = .int .i64 k) (fun i => n - (intOf i).toNat)
  case atStart => exact ⟨0, by omega, rfl⟩
  case round =>
    obtain ⟨k, hk, rfl⟩ := hrel
    by_cases hlt : k < n
    · have h1 := HC.out k hlt
      go_wp2_with (go_at_call 79; refine (one_ok _).mono ?_; rintro e w1 ⟨rfl, rfl⟩)
      go_round
      case rel => exact ⟨k + 1, by omega, by go_num⟩
      case measure => simp [intOf]; omega
    · go_wp2
      go_ret
      exact ⟨rfl, rfl⟩

set_option maxRecDepth 100000 in
theorem good_ok (b n c : Nat) (w : World) (hn : n ≤ maxLen) (hc : ∀ i, i < n → w.cell? ⟨b, i, none⟩ = some (.int .i64 0)) :
    Calls Try.prog 54 #[.slice (some ⟨b, 0, none⟩) n c] w fun e w' => e = .returned (.bool true) ∧ w = w' := by
  have HC := Lib.hid hc
  clear hc
  go_enter Try.func54, Try.ntmps54
  go_wp2_with (first
    | (go_at_call 78; go_in)
    | (go_at_call 94; refine (index_ok _ _ _ _ hn HC.out).mono ?_; rintro e w1 ⟨rfl, rfl⟩))
  go_ret
  exact ⟨rfl, rfl⟩
end Go.Proofs.Ytffhfpdmfegcpab.goods
