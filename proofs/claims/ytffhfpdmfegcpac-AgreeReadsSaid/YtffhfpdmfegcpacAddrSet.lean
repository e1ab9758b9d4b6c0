/- The contract of addr.Set. -/
import Derived.Test.YtffhfpdmfegcpacAddr
namespace Go.Proofs.Ytffhfpdmfegcpac.addr
open Go.ChangeShapes Go.WideShapes Go.ChangeAt Go.RowKit
open Go.Proofs.Ytffhfpdmfegcpac.base
set_option linter.unusedVariables false
set_option linter.unusedSimpArgs false


/-- Set, Bank -/
def partE (n s y b l : Int) : Int := if CfgOK n s y b ∧ 0 ≤ l ∧ l ≤ 15 then 0 else 4

def setV (n s y b l : Int) : Int := if CfgOK n s y b ∧ 0 ≤ l ∧ l ≤ 15 then l % s else 0
set_option maxHeartbeats 1000000 in
set_option maxRecDepth 100000 in
theorem set_any (n s y b l : Int) (w : World) : Calls Try.prog 77 #[.agg #[.int .i64 n, .int .i64 s, .int .i64 y, .int .i64 b], .int .i64 l] w
    (Ret (.tuple #[.int .i64 (setV n s y b l), .int .i64 (partE n s y b l)]) w) := by
  by_cases h0 : CfgOK n s y b
  · have c := cfgE_ok h0
    by_cases h1 : 0 ≤ l ∧ l ≤ 15
    · have e1 : setV n s y b l = l % s := if_pos ⟨h0, h1⟩
      have e2 : partE n s y b l = 0 := if_pos ⟨h0, h1⟩
      have hs := spanB_yes h1
      rw [e1, e2]
      have g1 : 1 ≤ s ∧ s ≤ 4 := by unfold CfgOK at h0; omega
      obtain ⟨g1, g2⟩ := g1
      obtain ⟨h2, h3⟩ := h1
      clear h0 e1 e2
      go_enter Try.func77, Try.ntmps77
      go_wp2_with (first
      | (go_at_call 92; go_in)
      | (go_at_call 62; refine (check_any _ _ _ _ _).mono ?_; rintro e w1 ⟨rfl, hb1⟩; obtain ⟨l1, d1, rfl⟩ := later_of hb1; clear hb1)
      | (go_at_call 83; refine (span_any _ _ _ _).mono ?_; rintro e w1 ⟨rfl, rfl⟩))
      go_ret2
      exact ⟨rfl, by repeat (first | exact Below.refl _ _ | apply bs_later | apply bs_alloc | apply bs_drew | apply bs_drewN)⟩
    · have e1 : setV n s y b l = 0 := if_neg (fun h => h1 h.2)
      have e2 : partE n s y b l = 4 := if_neg (fun h => h1 h.2)
      have hs : spanB l 0 15 = false := spanB_no (by omega)
      rw [e1, e2]
      clear h0 h1 e1 e2
      go_enter Try.func77, Try.ntmps77
      go_wp2_with (first
      | (go_at_call 92; go_in)
      | (go_at_call 62; refine (check_any _ _ _ _ _).mono ?_; rintro e w1 ⟨rfl, hb1⟩; obtain ⟨l1, d1, rfl⟩ := later_of hb1; clear hb1)
      | (go_at_call 83; refine (span_any _ _ _ _).mono ?_; rintro e w1 ⟨rfl, rfl⟩))
      go_ret2
      exact ⟨rfl, by repeat (first | exact Below.refl _ _ | apply bs_later | apply bs_alloc | apply bs_drew | apply bs_drewN)⟩
  · have e1 : setV n s y b l = 0 := if_neg (fun h => h0 h.1)
    have e2 : partE n s y b l = 4 := if_neg (fun h => h0 h.1)
    have c := cfgE_bad h0
    rw [e1, e2]
    clear h0 e1 e2
    go_enter Try.func77, Try.ntmps77
    go_wp2_with (first
      | (go_at_call 92; go_in)
      | (go_at_call 62; refine (check_any _ _ _ _ _).mono ?_; rintro e w1 ⟨rfl, hb1⟩; obtain ⟨l1, d1, rfl⟩ := later_of hb1; clear hb1)
      | (go_at_call 83; refine (span_any _ _ _ _).mono ?_; rintro e w1 ⟨rfl, rfl⟩))
    go_ret2
    exact ⟨rfl, by repeat (first | exact Below.refl _ _ | apply bs_later | apply bs_alloc | apply bs_drew | apply bs_drewN)⟩

end Go.Proofs.Ytffhfpdmfegcpac.addr
