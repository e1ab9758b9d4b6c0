/- The contract of atomic.Play. -/
import Derived.Test.YtffhfpdmfegcpacPlayLaw
import Derived.Lib.SmallJoins
namespace Go.Proofs.Ytffhfpdmfegcpac.play
open Go.ChangeShapes Go.WideShapes Go.ChangeAt Go.RowKit
open Go.Joins (ownsRow_le)
open Go.Proofs.Ytffhfpdmfegcpac.base Go.Proofs.Ytffhfpdmfegcpac.flat Go.Proofs.Ytffhfpdmfegcpac.same Go.Proofs.Ytffhfpdmfegcpac.addr Go.Proofs.Ytffhfpdmfegcpac.bank Go.Proofs.Ytffhfpdmfegcpac.atomic Go.Proofs.Ytffhfpdmfegcpac.table
set_option linter.unusedVariables false
set_option linter.unusedSimpArgs false

set_option maxHeartbeats 4000000 in
set_option maxRecDepth 100000 in
theorem play_large (xs : List Int) (hl : xs.length = 64) (a : Option Addr) (n c : Nat) (w : World) (hn : 200 < n) (hm : n ≤ maxLen) :
    Calls Try.prog 11 #[.agg (memA xs), .slice a n c] w (Ret (.tuple #[.agg (memA zeroXs), .slice none 0 0, .int .i64 2]) w) := by
  have hn' : (200 : Int) < n := by omega
  go_enter Try.func11, Try.ntmps11
  go_wp2_with (first
    | (refine wpList_store_r rfl 26 _ _ rfl _ rfl _ rfl 64 (by kernel_rfl) (by (simp only [go_sem, zero_size]; simp; done)) zero_size zero_one ?_; intro W hW; simp [go_sem] at hW; subst hW))
  refine bodyPost_ret (results_row_tmp2 rfl _ _ _ 64 _ rfl Try.underlying26 rfl (by kernel_rfl) (by simp only [go_sem, zero_size]; simp; done) (memA zeroXs) ?_ _ _ rfl rfl) rfl ⟨rfl, ?_⟩
  · rw [rowOf_new _ _ (by simp)]
    exact zero_is
  · repeat (first | exact Below.refl _ _ | apply bs_later | apply bs_alloc | apply bs_drew | apply bs_drewN)

theorem inB_cell {w : World} {b i : Nat} {v : Value} (h : w.cell? ⟨b, i, none⟩ = some v) : inB w b := by
  unfold inB
  rcases Nat.lt_or_ge b w.heap.size with h1 | h1
  · exact h1
  · simp [World.cell?, Array.getElem?_eq_none h1] at h

def Rel1 (xs : List Int) (ds : List D4) (w0 : World) (i : Value) (wr : World) : Prop :=
  ∃ (k : Nat) (l : Array Obj) (d : Nat), k ≤ ds.length ∧ i = .int .i64 k ∧ wr = w0.later l d ∧ firstBad (ds.take k) = 0

set_option maxHeartbeats 4000000 in
set_option maxRecDepth 100000 in
theorem play_bad (xs : List Int) (hl : xs.length = 64) (ds : List D4) (a : Option Addr) (n c : Nat) (w : World) (hn : n ≤ 200) (hd : ds.length = n) (h : DeedsAt w a ds) (hb : ¬ firstBad ds = 0) :
    Calls Try.prog 11 #[.agg (memA xs), .slice a n c] w (Ret (.tuple #[.agg (memA zeroXs), .slice none 0 0, .int .i64 (firstBad ds)]) w) := by
  have hn' : (n : Int) ≤ 200 := by omega
  go_enter Try.func11, Try.ntmps11
  go_wp2
  rw [zero_is]
  go_loopw [20] (Rel1 xs ds ((w.alloc (.cells (memA xs) 26)).alloc (.cells (memA zeroXs) 26))) (fun i _ => n - (intOf i).toNat)
  case atStart => exact ⟨0, #[], _, by omega, rfl, later_zero _, rfl⟩
  case round =>
    obtain ⟨k, l, d, hk, rfl, rfl, h0⟩ := hrel
    by_cases hlt : k < n
    · obtain ⟨x, hx⟩ := get_some (xs := ds) (k := k) (by omega)
      rcases h with h | ⟨b, off, rfl, hA⟩
      · obtain rfl : ds = [] := by simpa using h
        cases hx
      obtain ⟨c0, c1, c2, c3⟩ := DeedsAt.at (.inr ⟨b, off, rfl, hA⟩) hx
      have hin := inB_cell c0
      have HA := Lib.hid hA
      have HX := Lib.hid hx
      have H0 := Lib.hid h0
      have HB := Lib.hid hb
      clear hA hx h0 hb
      obtain ⟨xn, xk, xa, xv⟩ := x
      simp only at c0 c1 c2 c3
      by_cases hbad : rightE xn xk xa xv = 0
      · go_wp2_with (first
          | (go_at_call 41; refine (right_any _ _ _ _ _).mono ?_; rintro e w1 ⟨rfl, hb1⟩; obtain ⟨l1, d1, rfl⟩ := later_of hb1; clear hb1))
        rw [later_alloc, later_later]
        go_roundw
        case rel => exact ⟨k + 1, _, _, by omega, by go_num, rfl, by rw [take_snoc HX.out, firstBad_snoc, if_pos H0.out]; exact hbad⟩
        case measure => simp [intOf]; omega
      · have hbad' : (rightE xn xk xa xv != 0) = true := by simpa using hbad
        have he : firstBad ds = rightE xn xk xa xv := firstBad_at HX.out H0.out hbad
        rw [he]
        clear he hbad
        go_wp2_with (first
          | (refine wpList_store_r rfl 26 _ _ rfl _ rfl _ rfl 64 (by kernel_rfl) (by (simp only [go_sem, zero_size, size_memA, zeroXs_len]; simp; done)) zero_size zero_one ?_; intro W hW; simp [go_sem] at hW; subst hW)
          | (go_at_call 41; refine (right_any _ _ _ _ _).mono ?_; rintro e w1 ⟨rfl, hb1⟩; obtain ⟨l1, d1, rfl⟩ := later_of hb1; clear hb1))
        refine bodyPost_ret (results_row_tmp2 rfl _ _ _ 64 _ rfl Try.underlying26 rfl (by kernel_rfl) (by simp only [go_sem, zero_size, size_memA, zeroXs_len]; simp; done) (memA zeroXs) ?_ _ _ rfl rfl) rfl ⟨rfl, ?_⟩
        · simp [go_sem, zero_is]
        · repeat (first | exact Below.refl _ _ | apply bs_later | apply bs_alloc | apply bs_drew | apply bs_drewN)
    · obtain rfl : k = n := by omega
      exact absurd (by rw [← hd, List.take_length] at h0; exact h0) hb
end Go.Proofs.Ytffhfpdmfegcpac.play
