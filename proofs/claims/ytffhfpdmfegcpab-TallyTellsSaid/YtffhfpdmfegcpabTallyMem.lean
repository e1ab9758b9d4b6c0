/- The contract of tally.Memory. -/
import Derived.Test.YtffhfpdmfegcpabTallyCheck
import Derived.Test.YtffhfpdmfegcpabMemEq
namespace Go.Proofs.Ytffhfpdmfegcpab.tally
open Go.ChangeShapes Go.WideShapes Go.ChangeAt Go.RowKit
open Go.Proofs.Ytffhfpdmfegcpab.base Go.Proofs.Ytffhfpdmfegcpab.flat Go.Proofs.Ytffhfpdmfegcpab.same Go.Proofs.Ytffhfpdmfegcpab.addr Go.Proofs.Ytffhfpdmfegcpab.bank Go.Proofs.Ytffhfpdmfegcpab.atomic Go.Proofs.Ytffhfpdmfegcpab.table Go.Proofs.Ytffhfpdmfegcpab.play Go.Proofs.Ytffhfpdmfegcpab.told Go.Proofs.Ytffhfpdmfegcpab.prog
set_option linter.unusedVariables false
set_option linter.unusedSimpArgs false

def memE (xs : List Int) (ts : List E6) : List Int := playM xs (ts.map (·.d))
theorem memE_len (xs : List Int) (ts : List E6) : (memE xs ts).length = xs.length := playM_len _ _
theorem memE_snoc (xs : List Int) (l : List E6) (x : E6) : memE xs (l ++ [x]) = plainM (memE xs l) x.d.k x.d.a x.d.v := by
  unfold memE; rw [List.map_append]; exact playM_snoc _ _ _
def RelMem (xs : List Int) (ts : List E6) (w0 : World) (i : Value) (wr : World) : Prop :=
  ∃ (k : Nat) (l : Array Obj) (d : Nat) (Z : Array Value), k ≤ ts.length ∧ i = .int .i64 k ∧ Z.size = 64 ∧ wr = ((w0.alloc (.cells (memA (memE xs (ts.take k))) 26)).alloc (.cells Z 26)).later l d

set_option maxHeartbeats 4000000 in
set_option maxRecDepth 100000 in
theorem memory_ok (xs : List Int) (hl : xs.length = 64) (ts : List E6) (a : Option Addr) (n c : Nat) (w : World) (hm : n ≤ maxLen) (hd : ts.length = n) (h : EventsAt w a ts) (h0 : evE 8 ts = 0) :
    Calls Try.prog 51 #[.agg (memA xs), .slice a n c] w (Ret (.tuple #[.agg (memA (memE xs ts)), .int .i64 0]) w) := by
  have PC := fun w h => tally.check_any ts 8 a n c w hm hd h
  rw [h0] at PC
  have hev := evE_ok h0
  have hn : n ≤ 200 := by rw [← hd]; exact hev.1
  have s1 : (memA xs).size = 64 := by rw [size_memA, hl]
  have HC := Lib.hid PC
  have HF := Lib.hid hev.2
  have HDL := Lib.hid hd
  have HX := Lib.hid hl
  have HT := Lib.hid h
  clear PC h0 hev hl h hd
  go_enter Try.func51, Try.ntmps51
  go_wp2_with (first
    | (go_at_call 77; refine (HC.out _ (EventsAt.below HT.out (by repeat (first | exact Below.refl _ _ | apply bs_later | apply bs_alloc | apply bs_drew | apply bs_drewN)))).mono ?_; rintro e w1 ⟨rfl, hb1⟩; obtain ⟨l1, d1, rfl⟩ := later_of hb1; clear hb1))
  go_loopw [17] (RelMem xs ts w) (fun i _ => n - (intOf i).toNat)
  case atStart => exact ⟨0, l1, d1, _, by omega, rfl, zero_size, rfl⟩
  case round =>
    clear l1 d1
    obtain ⟨k, l, d, Z, hk, rfl, s4, rfl⟩ := hrel
    have hml : (memE xs (ts.take k)).length = 64 := by rw [memE_len, HX.out]
    have s2 : (memA (memE xs (ts.take k))).size = 64 := by rw [size_memA, hml]
    by_cases hlt : k < n
    · obtain ⟨x, hx⟩ := get_some (xs := ts) (k := k) (by rw [HDL.out]; exact hlt)
      have ht := HT.out
      obtain ⟨b, off, rfl⟩ := EventsAt.form ht hx
      obtain ⟨c0, c1, c2, c3, c4, c5⟩ := EventsAt.at ht hx
      have hin : inB w b := lt_of_cell c0
      have hbad := (HF.out k x hx).1
      have eM : memE xs (ts.take (k + 1)) = plainM (memE xs (ts.take k)) x.d.k x.d.a x.d.v := by rw [play.take_snoc hx, memE_snoc]
      have s3 : (memA (plainM (memE xs (ts.take k)) x.d.k x.d.a x.d.v)).size = 64 := by rw [size_memA, plainM_len, hml]
      have P := fun w => Do_ok (memE xs (ts.take k)) hml x.d.n x.d.k x.d.a x.d.v w hbad
      have HKL : Hid (k + 1 ≤ ts.length) := Lib.hid (by rw [HDL.out]; exact hlt)
      obtain ⟨⟨xn, xk, xa, xv⟩, xu, xb⟩ := x
      simp only at c0 c1 c2 c3 c4 c5 eM P s3
      generalize plainM (memE xs (ts.take k)) xk xa xv = zs at *
      generalize plainV (memE xs (ts.take k)) xk xa = z at *
      generalize memE xs (ts.take k) = ys at *
      have HP := Lib.hid P
      have HM := Lib.hid eM
      clear P eM ht hx hbad hml hk
      go_wp2_with (first
        | (refine wpList_load_r rfl 26 _ rfl _ rfl 64 _ Try.underlying26 rfl (by kernel_rfl) (by (simp [go_sem, s2, s3, s4]; done)) ?_; intro C hC; simp [go_sem] at hC; subst hC)
        | (refine wpList_store_r rfl 26 _ _ rfl _ rfl _ rfl 64 (by kernel_rfl) (by (simp [go_sem, s2, s3, s4]; done)) (by (simp [s2, s3, s4]; done)) (memA_one _) ?_; intro W hW; simp [go_sem] at hW; subst hW)
        | (go_at_call 26; refine (HP.out _).mono ?_; rintro e w1 ⟨rfl, hb1⟩; obtain ⟨l1, d1, rfl⟩ := later_of hb1; clear hb1))
      rw [later_alloc, later_later]
      go_roundw
      case rel => exact ⟨k + 1, _, _, Z, HKL.out, by go_num, s4, by rw [HM.out]⟩
      case measure => simp [intOf]; omega
    · obtain rfl : k = n := by have := HDL.out; omega
      have hT : ts.take k = ts := List.take_of_length_le (by rw [HDL.out]; omega)
      rw [hT] at hml s2 ⊢
      generalize memE xs ts = ys at *
      clear hT
      go_wp2_with (first
        | (refine wpList_load_r rfl 26 _ rfl _ rfl 64 _ Try.underlying26 rfl (by kernel_rfl) (by (simp [go_sem, s2, s4]; done)) ?_; intro C hC; simp [go_sem] at hC; subst hC)
        | (refine wpList_store_r rfl 26 _ _ rfl _ rfl _ rfl 64 (by kernel_rfl) (by (simp [go_sem, s2, s4]; done)) (by (simp [s2, s4]; done)) (memA_one _) ?_; intro W hW; simp [go_sem] at hW; subst hW))
      refine bodyPost_ret (results_row_tmp rfl _ _ _ 64 _ rfl Try.underlying26 rfl (by kernel_rfl) (by simp [go_sem, s2, s4]; done) (memA ys) ?_ _ rfl) rfl ⟨rfl, ?_⟩
      · simp [go_sem]
      · repeat (first | exact Below.refl _ _ | apply bs_later | apply bs_alloc | apply bs_drew | apply bs_drewN)

set_option maxHeartbeats 4000000 in
set_option maxRecDepth 100000 in
theorem memory_bad (xs : List Int) (hl : xs.length = 64) (ts : List E6) (a : Option Addr) (n c : Nat) (w : World) (hm : n ≤ maxLen) (hd : ts.length = n) (h : EventsAt w a ts) (h0 : ¬ evE 8 ts = 0) :
    Calls Try.prog 51 #[.agg (memA xs), .slice a n c] w (Ret (.tuple #[.agg (memA zeroXs), .int .i64 (evE 8 ts)]) w) := by
  have PC := fun w h => tally.check_any ts 8 a n c w hm hd h
  have HC := Lib.hid PC
  have HT := Lib.hid h
  generalize evE 8 ts = E at *
  have h0' : (E != 0) = true := by simpa using h0
  clear PC h0 hl h hd
  go_enter Try.func51, Try.ntmps51
  go_wp2_with (first
    | (refine wpList_store_r rfl 26 _ _ rfl _ rfl _ rfl 64 (by kernel_rfl) (by (simp only [go_sem, zero_size]; simp; done)) zero_size zero_one ?_; intro W hW; simp [go_sem] at hW; subst hW)
    | (go_at_call 77; refine (HC.out _ (EventsAt.below HT.out (by repeat (first | exact Below.refl _ _ | apply bs_later | apply bs_alloc | apply bs_drew | apply bs_drewN)))).mono ?_; rintro e w1 ⟨rfl, hb1⟩; obtain ⟨l1, d1, rfl⟩ := later_of hb1; clear hb1))
  refine bodyPost_ret (results_row_tmp rfl _ _ _ 64 _ rfl Try.underlying26 rfl (by kernel_rfl) (by simp only [go_sem, zero_size]; simp; done) (memA zeroXs) ?_ _ rfl) rfl ⟨rfl, ?_⟩
  · rw [rowOf_later _ _ (by simp [go_sem]), rowOf_new _ _ (by simp)]
    exact zero_is
  · repeat (first | exact Below.refl _ _ | apply bs_later | apply bs_alloc | apply bs_drew | apply bs_drewN)
end Go.Proofs.Ytffhfpdmfegcpab.tally
