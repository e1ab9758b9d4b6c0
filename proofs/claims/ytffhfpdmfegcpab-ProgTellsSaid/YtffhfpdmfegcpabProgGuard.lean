/- The guard of the laws on programs. -/
import Derived.Test.YtffhfpdmfegcpabProgNext
namespace Go.Proofs.Ytffhfpdmfegcpab.prog
open Go.ChangeShapes Go.WideShapes Go.ChangeAt Go.RowKit
open Go.Proofs.Ytffhfpdmfegcpab.base Go.Proofs.Ytffhfpdmfegcpab.flat Go.Proofs.Ytffhfpdmfegcpab.table Go.Proofs.Ytffhfpdmfegcpab.addr Go.Proofs.Ytffhfpdmfegcpab.atomic
set_option linter.unusedVariables false
set_option linter.unusedSimpArgs false

theorem lists_one {W : World} {b b2 : Nat} {y : D4} (h : W.cell? ⟨b, 0, none⟩ = some (.slice (some ⟨b2, 0, none⟩) 1 1)) (h2 : ∀ (j : Nat) (v : Value), y.cells[j]? = some v → W.cell? ⟨b2, j, none⟩ = some v) : ListsAt DeedsAt W (some ⟨b, 0, none⟩) [[y]] := by
  refine .inr ⟨b, 0, rfl, fun i l hl => ?_⟩
  match i, hl with
  | 0, hl =>
    obtain rfl : [y] = l := by simpa using hl
    refine ⟨some ⟨b2, 0, none⟩, 1, h, Nat.le_refl _, by decide, (fun h => nomatch h), .inr ⟨b2, 0, rfl, fun i r hr => ?_⟩⟩
    match i, hr with
    | 0, hr =>
      obtain rfl : y.cells = r := by simpa using hr
      exact ⟨rfl, fun j v hj => by rw [show 0 + 0 * 4 + j = j by omega]; exact h2 j v hj⟩
theorem ints_one {W : World} {b : Nat} {x : Int} (h : W.cell? ⟨b, 0, none⟩ = some (.int .i64 x)) : IntsAt .i64 W (some ⟨b, 0, none⟩) [x] := by
  refine .inr ⟨b, 0, rfl, fun i y hy => ?_⟩
  match i, hy with
  | 0, hy =>
    obtain rfl : x = y := by simpa using hy
    exact h
set_option maxHeartbeats 1000000 in
set_option maxRecDepth 100000 in
theorem progs_any (w : World) : Calls Try.prog 32 #[] w (Ret (.bool true) w) := by
  go_enter Try.func32, Try.ntmps32
  go_wp2_with (go_at_call 44; refine (next_hit (ps := [[⟨0, 0, 4, 0⟩]]) (ats := [0]) (k := 0) (P := [⟨0, 0, 4, 0⟩]) (t := 0) (y := ⟨0, 0, 4, 0⟩) (by decide) rfl ?a1 rfl ?a2 rfl rfl rfl).mono ?_; (case a1 => exact lists_one (b2 := w.heap.size) (by go_simp) (fun j v hj => by match j, hj with | 0, hj => (obtain rfl := Option.some.inj hj; go_simp) | 1, hj => (obtain rfl := Option.some.inj hj; go_simp) | 2, hj => (obtain rfl := Option.some.inj hj; go_simp) | 3, hj => (obtain rfl := Option.some.inj hj; go_simp))); (case a2 => exact ints_one (by go_simp)); rintro e w1 ⟨rfl, hb1⟩; obtain ⟨l1, d1, rfl⟩ := later_of hb1; clear hb1)
  go_ret
  exact ⟨rfl, (by repeat (first | exact Below.refl _ _ | apply bs_later | apply bs_alloc | apply bs_drew | apply bs_drewN))⟩
end Go.Proofs.Ytffhfpdmfegcpab.prog
