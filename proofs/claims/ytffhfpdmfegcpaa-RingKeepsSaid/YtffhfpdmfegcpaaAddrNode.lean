/- The contract of addr.Node. -/
import Derived.Test.YtffhfpdmfegcpaaAddr
namespace Go.Proofs.Ytffhfpdmfegcpaa.addr
open Go.ChangeShapes Go.WideShapes Go.ChangeAt Go.RowKit
open Go.Proofs.Ytffhfpdmfegcpaa.base
set_option linter.unusedVariables false
set_option linter.unusedSimpArgs false

/-- Node -/
def NodeOK (n s y b f k : Int) : Prop := CfgOK n s y b ∧ 0 ≤ f ∧ f ≤ n - 1 ∧ 0 ≤ k
instance (n s y b f k : Int) : Decidable (NodeOK n s y b f k) := by unfold NodeOK; exact inferInstance
def nodeV (n s y b f k : Int) : Int := if NodeOK n s y b f k then (f + k % n) % n else 0
def nodeE (n s y b f k : Int) : Int := if NodeOK n s y b f k then 0 else 4
set_option maxHeartbeats 1000000 in
set_option maxRecDepth 100000 in
theorem node_any (n s y b f k : Int) (w : World) (hk : k ≤ 9223372036854775807) : Calls Try.prog 25 #[.agg #[.int .i64 n, .int .i64 s, .int .i64 y, .int .i64 b], .int .i64 f, .int .i64 k] w
    (Ret (.tuple #[.int .i64 (nodeV n s y b f k), .int .i64 (nodeE n s y b f k)]) w) := by
  by_cases h : NodeOK n s y b f k
  · have e1 : nodeV n s y b f k = (f + k % n) % n := if_pos h
    have e2 : nodeE n s y b f k = 0 := if_pos h
    rw [e1, e2]
    clear e1 e2
    obtain ⟨h0, h1, h2, h3⟩ := h
    have c := cfgE_ok h0
    obtain ⟨g1, g2, -⟩ := h0
    have hs := spanB_yes ⟨h1, h2⟩
    have m1 : 0 ≤ k % n := Int.emod_nonneg k (by omega)
    have m2 : k % n < n := Int.emod_lt_of_pos k (by omega)
    go_enter Try.func25, Try.ntmps25
    go_wp2_with (first
      | (go_at_call 28; refine (check_any _ _ _ _ _).mono ?_; rintro e w1 ⟨rfl, hb1⟩; obtain ⟨l1, d1, rfl⟩ := later_of hb1; clear hb1)
      | (go_at_call 53; refine (span_any _ _ _ _).mono ?_; rintro e w1 ⟨rfl, rfl⟩))
    go_quiet (fail)
    go_wp2
    go_ret2
    exact ⟨rfl, by repeat (first | exact Below.refl _ _ | apply bs_later | apply bs_alloc | apply bs_drew | apply bs_drewN)⟩
  · have e1 : nodeV n s y b f k = 0 := if_neg h
    have e2 : nodeE n s y b f k = 4 := if_neg h
    rw [e1, e2]
    clear e1 e2
    by_cases h0 : CfgOK n s y b
    · have c := cfgE_ok h0
      obtain ⟨g1, g2, -⟩ := id h0
      by_cases h1 : 0 ≤ f ∧ f ≤ n - 1
      · have hs := spanB_yes h1
        have hk2 : k < 0 := by
          rcases Int.lt_or_le k 0 with h2 | h2
          · exact h2
          · exact absurd ⟨h0, h1.1, h1.2, h2⟩ h
        clear h h0 h1
        go_enter Try.func25, Try.ntmps25
        go_wp2_with (first
          | (go_at_call 28; refine (check_any _ _ _ _ _).mono ?_; rintro e w1 ⟨rfl, hb1⟩; obtain ⟨l1, d1, rfl⟩ := later_of hb1; clear hb1)
          | (go_at_call 53; refine (span_any _ _ _ _).mono ?_; rintro e w1 ⟨rfl, rfl⟩))
        go_ret2
        exact ⟨rfl, by repeat (first | exact Below.refl _ _ | apply bs_later | apply bs_alloc | apply bs_drew | apply bs_drewN)⟩
      · have hs : spanB f 0 (n - 1) = false := spanB_no (by omega)
        clear h h0 h1
        go_enter Try.func25, Try.ntmps25
        go_wp2_with (first
          | (go_at_call 28; refine (check_any _ _ _ _ _).mono ?_; rintro e w1 ⟨rfl, hb1⟩; obtain ⟨l1, d1, rfl⟩ := later_of hb1; clear hb1)
          | (go_at_call 53; refine (span_any _ _ _ _).mono ?_; rintro e w1 ⟨rfl, rfl⟩))
        go_ret2
        exact ⟨rfl, by repeat (first | exact Below.refl _ _ | apply bs_later | apply bs_alloc | apply bs_drew | apply bs_drewN)⟩
    · have c := cfgE_bad h0
      clear h h0
      go_enter Try.func25, Try.ntmps25
      go_wp2_with (go_at_call 28; refine (check_any _ _ _ _ _).mono ?_; rintro e w1 ⟨rfl, hb1⟩; obtain ⟨l1, d1, rfl⟩ := later_of hb1; clear hb1)
      go_ret2
      exact ⟨rfl, by repeat (first | exact Below.refl _ _ | apply bs_later | apply bs_alloc | apply bs_drew | apply bs_drewN)⟩

end Go.Proofs.Ytffhfpdmfegcpaa.addr
