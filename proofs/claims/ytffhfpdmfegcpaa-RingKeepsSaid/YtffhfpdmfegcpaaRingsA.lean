/- The guard of ringdovekeep's ring laws. -/
import Derived.Test.YtffhfpdmfegcpaaRingNewA
namespace Go.Proofs.Ytffhfpdmfegcpaa.slot
open Go.ChangeShapes Go.WideShapes Go.ChangeAt Go.RowKit
open Go.Proofs.Ytffhfpdmfegcpaa.base Go.Proofs.Ytffhfpdmfegcpaa.flat Go.Proofs.Ytffhfpdmfegcpaa.table Go.Proofs.Ytffhfpdmfegcpaa.addr
set_option linter.unusedVariables false
set_option linter.unusedSimpArgs false

set_option maxHeartbeats 4000000 in
set_option maxRecDepth 100000 in
theorem rings_any (w : World) : Calls Try.prog 38 #[] w (Ret (.bool true) w) := by
  have PN : ∀ w, Calls Try.prog 59 #[.agg #[.int .i64 2, .int .i64 1, .int .i64 1, .int .i64 1], .int .i64 3] w fun e w' => ∃ g, e = .returned (.tuple #[.slice (some ⟨g, 0, none⟩) 3 3, .int .i64 0]) ∧ w'.cell? ⟨g, 4, none⟩ = some (.int .i64 1) ∧ Below w.heap.size w w' := fun w =>
    (ringNew_ok 2 1 1 1 3 w (by omega) (by decide)).mono fun e w' ⟨g, h1, h2, h3⟩ => by
      have := (SlotsAt.at h2 (i := 1) (newL_get (cn := 2) (n := 3) (k := 3) (by omega))).1
      exact ⟨g, h1, this, h3⟩
  have HN := Lib.hid PN
  clear PN
  go_enter Try.func38, Try.ntmps38
  go_wp2_with (first
    | (go_at_call 60; go_in)
    | (go_at_call 59; refine (HN.out _).mono ?_; rintro e w1 ⟨g, rfl, hc, hb1⟩; have hg := lt_of_cell hc; obtain ⟨l1, d1, rfl⟩ := later_of hb1; clear hb1))
  go_ret
  exact ⟨rfl, (by repeat (first | exact Below.refl _ _ | apply bs_later | apply bs_alloc | apply bs_drew | apply bs_drewN))⟩
end Go.Proofs.Ytffhfpdmfegcpaa.slot
