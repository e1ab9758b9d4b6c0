/- The contracts of row.Check at any row, and of row.Find. -/
import Derived.Test.YtffhfpdmfegcpacRowCheck
namespace Go.Proofs.Ytffhfpdmfegcpac.ways
open Go.ChangeShapes Go.WideShapes Go.ChangeAt Go.RowKit
open Go.Proofs.Ytffhfpdmfegcpac.base Go.Proofs.Ytffhfpdmfegcpac.flat Go.Proofs.Ytffhfpdmfegcpac.table Go.Proofs.Ytffhfpdmfegcpac.prog Go.Proofs.Ytffhfpdmfegcpac.same
set_option linter.unusedVariables false
set_option linter.unusedSimpArgs false

set_option maxHeartbeats 1000000 in
set_option maxRecDepth 100000 in
theorem rowCheck_any (r : R4) (hr : r.Ok) (n : Int) (p : Option Addr) (c : Nat) (w : World) (hc : r.ways.length ≤ c) (hc2 : c ≤ maxLen) (hW : WaysAt w p r.ways) :
    Calls Try.prog 78 #[.agg #[.slice p r.ways.length c, .bool r.x, .bool r.y, .bool r.z], .int .i64 n] w (Ret (.int .i64 (rowE r n)) w) := by
  unfold rowE
  have PP := fun w => plru.check_any r.x r.y r.z n w
  by_cases hE : plru.plruE r.x r.y r.z n = 0
  · rw [if_pos hE]
    by_cases hl : (r.ways.length : Int) = n
    · rw [if_pos hl]
      exact rowCheck_ok r hr n p c w hl hc hc2 hW hE
    · rw [if_neg hl]
      rw [hE] at PP
      have HP := Lib.hid PP
      have hlb : ((r.ways.length : Int) != n) = true := by simpa using hl
      clear PP hE hl hr
      obtain ⟨ws, x, y, z⟩ := r
      simp only at hlb HP hc
      generalize ws.length = m at *
      unfold maxLen at hc2
      clear hW
      go_enter Try.func78, Try.ntmps78
      go_wp2_with (go_at_call 93; refine (HP.out _).mono ?_; rintro e w1 ⟨rfl, hb1⟩; obtain ⟨l1, d1, rfl⟩ := later_of hb1; clear hb1)
      go_ret
      exact ⟨rfl, (by repeat (first | exact Below.refl _ _ | apply bs_later | apply bs_alloc | apply bs_drew | apply bs_drewN))⟩
  · rw [if_neg hE]
    have HP := Lib.hid PP
    obtain ⟨ws, x, y, z⟩ := r
    simp only at hE HP hc ⊢
    generalize plru.plruE x y z n = E at *
    have hEb : (E != 0) = true := by simpa using hE
    clear PP hE hr hW
    go_enter Try.func78, Try.ntmps78
    go_wp2_with (go_at_call 93; refine (HP.out _).mono ?_; rintro e w1 ⟨rfl, hb1⟩; obtain ⟨l1, d1, rfl⟩ := later_of hb1; clear hb1)
    go_ret
    exact ⟨rfl, (by repeat (first | exact Below.refl _ _ | apply bs_later | apply bs_alloc | apply bs_drew | apply bs_drewN))⟩
set_option maxHeartbeats 1000000 in
set_option maxRecDepth 100000 in
theorem rowFind_ok (r : R4) (hr : r.Ok) (n : Int) (L : Int) (p : Option Addr) (c : Nat) (w : World) (hc : r.ways.length ≤ c) (hc2 : c ≤ maxLen) (hW : WaysAt w p r.ways) (h0 : rowE r n = 0) :
    Calls Try.prog 56 #[.agg #[.slice p r.ways.length c, .bool r.x, .bool r.y, .bool r.z], .int .i64 n, .int .i64 L] w (Ret (.tuple #[.int .i64 (findW L r.ways), .int .i64 0]) w) := by
  have PC := fun w h => rowCheck_any r hr n p c w hc hc2 h
  rw [h0] at PC
  have HC := Lib.hid PC
  have HF := Lib.hid (fun w h => find_any L r.ways p r.ways.length c w rfl (Nat.le_trans hc hc2) h)
  have HWW := Lib.hid hW
  obtain ⟨ws, x, y, z⟩ := r
  simp only at HC HF HWW hc ⊢
  generalize findW L ws = F at *
  generalize hm : ws.length = m at *
  clear PC h0 hr hW hm
  go_enter Try.func56, Try.ntmps56
  go_wp2_with (first
    | (go_at_call 78; refine (HC.out _ (WaysAt.below HWW.out (by repeat (first | exact Below.refl _ _ | apply bs_later | apply bs_alloc | apply bs_drew | apply bs_drewN)))).mono ?_; rintro e w1 ⟨rfl, hb1⟩; obtain ⟨l1, d1, rfl⟩ := later_of hb1; clear hb1)
    | (go_at_call 79; refine (HF.out _ (WaysAt.below HWW.out (by repeat (first | exact Below.refl _ _ | apply bs_later | apply bs_alloc | apply bs_drew | apply bs_drewN)))).mono ?_; rintro e w1 ⟨rfl, hb1⟩; obtain ⟨l2, d2, rfl⟩ := later_of hb1; clear hb1))
  go_ret2
  exact ⟨rfl, (by repeat (first | exact Below.refl _ _ | apply bs_later | apply bs_alloc | apply bs_drew | apply bs_drewN))⟩
end Go.Proofs.Ytffhfpdmfegcpac.ways
