/- The contract of ringdovekeep.orders: package order is there. -/
import Derived.Test.YtffhfpdmfegcpacLegal
namespace Go.Proofs.Ytffhfpdmfegcpac.told
open Go.ChangeShapes Go.WideShapes Go.ChangeAt Go.RowKit
open Go.Proofs.Ytffhfpdmfegcpac.base Go.Proofs.Ytffhfpdmfegcpac.flat Go.Proofs.Ytffhfpdmfegcpac.same Go.Proofs.Ytffhfpdmfegcpac.addr Go.Proofs.Ytffhfpdmfegcpac.bank Go.Proofs.Ytffhfpdmfegcpac.atomic Go.Proofs.Ytffhfpdmfegcpac.table Go.Proofs.Ytffhfpdmfegcpac.play Go.Proofs.Ytffhfpdmfegcpac.memEq Go.Proofs.Ytffhfpdmfegcpac.range
set_option linter.unusedVariables false
set_option linter.unusedSimpArgs false

def sevenXs : List Int := 7 :: List.replicate 63 0
theorem sevenXs_len : sevenXs.length = 64 := by decide
theorem seven_is : (#[.int .u64 7, .int .u64 0, .int .u64 0, .int .u64 0, .int .u64 0, .int .u64 0, .int .u64 0, .int .u64 0, .int .u64 0, .int .u64 0, .int .u64 0, .int .u64 0, .int .u64 0, .int .u64 0, .int .u64 0, .int .u64 0, .int .u64 0, .int .u64 0, .int .u64 0, .int .u64 0, .int .u64 0, .int .u64 0, .int .u64 0, .int .u64 0, .int .u64 0, .int .u64 0, .int .u64 0, .int .u64 0, .int .u64 0, .int .u64 0, .int .u64 0, .int .u64 0, .int .u64 0, .int .u64 0, .int .u64 0, .int .u64 0, .int .u64 0, .int .u64 0, .int .u64 0, .int .u64 0, .int .u64 0, .int .u64 0, .int .u64 0, .int .u64 0, .int .u64 0, .int .u64 0, .int .u64 0, .int .u64 0, .int .u64 0, .int .u64 0, .int .u64 0, .int .u64 0, .int .u64 0, .int .u64 0, .int .u64 0, .int .u64 0, .int .u64 0, .int .u64 0, .int .u64 0, .int .u64 0, .int .u64 0, .int .u64 0, .int .u64 0, .int .u64 0] : Array Value) = memA sevenXs := by kernel_rfl
theorem one_told {W : World} {t : TypeId} : ToldsAt (W.alloc (.cells #[.int .i64 0, .int .i64 1, .int .i64 0, .int .u64 0, .int .u64 7] t)) (some ⟨W.heap.size, 0, none⟩) [⟨⟨0, 1, 0, 0⟩, 7⟩] := by
  refine .inr ⟨W.heap.size, 0, rfl, fun i r hr => ?_⟩
  cases i with
  | succ i => simp at hr
  | zero =>
    obtain rfl : [Value.int .i64 0, .int .i64 1, .int .i64 0, .int .u64 0, .int .u64 7] = r := by simpa [T5.cells] using hr
    refine ⟨rfl, fun j v hj => ?_⟩
    rw [World.cell?_alloc_at _ _ _ _ rfl]
    simpa using hj
set_option maxHeartbeats 1000000 in
set_option maxRecDepth 100000 in
theorem orders_any (w : World) : Calls Try.prog 8 #[] w (Ret (.bool true) w) := by
  have P := fun w a h => legal_any sevenXs sevenXs_len [⟨⟨0, 1, 0, 0⟩, 7⟩] a 1 1 w (by decide) rfl h
  rw [show legalR sevenXs [⟨⟨0, 1, 0, 0⟩, 7⟩] = true by decide, show toldE 200 [⟨⟨0, 1, 0, 0⟩, 7⟩] = 0 by decide] at P
  have HP := Lib.hid P
  have HS := Lib.hid seven_is
  clear P
  go_enter Try.func8, Try.ntmps8
  go_wp2_with (go_at_call 10; rw [HS.out]; refine (HP.out _ _ one_told).mono ?_; rintro e w1 ⟨rfl, hb1⟩; obtain ⟨l1, d1, rfl⟩ := later_of hb1; clear hb1)
  go_ret
  exact ⟨rfl, (by repeat (first | exact Below.refl _ _ | apply bs_later | apply bs_alloc | apply bs_drew | apply bs_drewN))⟩
end Go.Proofs.Ytffhfpdmfegcpac.told
