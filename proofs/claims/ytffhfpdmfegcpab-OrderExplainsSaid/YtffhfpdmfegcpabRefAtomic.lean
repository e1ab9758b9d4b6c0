/- The contract of ringdoveref.Plain. -/
import Derived.Test.YtffhfpdmfegcpabAtomicDo
import Derived.Test.YtffhfpdmfegcpabRefAddr
import Derived.StillTailTactics
namespace Go.Proofs.Ytffhfpdmfegcpab.refAtomic
open Go.ChangeShapes Go.WideShapes Go.ChangeAt Go.RowKit
open Go.Proofs.Ytffhfpdmfegcpab.base Go.Proofs.Ytffhfpdmfegcpab.flat Go.Proofs.Ytffhfpdmfegcpab.same Go.Proofs.Ytffhfpdmfegcpab.addr Go.Proofs.Ytffhfpdmfegcpab.bank Go.Proofs.Ytffhfpdmfegcpab.atomic
set_option linter.unusedVariables false
set_option linter.unusedSimpArgs false

@[go_sem] theorem setCell_drewN {w : World} {n : Nat} {a : Addr} {v : Value} : (w.drewN n).setCell a v = (w.setCell a v).drewN n := rfl

set_option maxHeartbeats 4000000 in
set_option maxRecDepth 100000 in
theorem plain_ok (xs : List Int) (hl : xs.length = 64) (n k a v : Int) (w : World) (hk : 1 ≤ k ∧ k ≤ 4) (h0 : 0 ≤ a) (h3 : a ≤ 63) :
    Calls Try.prog 30 #[.agg (memA xs), .agg #[.int .i64 n, .int .i64 k, .int .i64 a, .int .u64 v]] w (Ret (.tuple #[.agg (memA (plainM xs k a v)), .int .u64 (plainV xs k a)]) w) := by
  have s0 : (memA xs).size = 64 := by rw [size_memA, hl]
  have HX := Lib.hid hl
  obtain ⟨i, rfl⟩ := Int.eq_ofNat_of_zero_le h0
  obtain ⟨ys, hys⟩ : ∃ ys, xs.set (i : Int).toNat v = ys := ⟨_, rfl⟩
  have HYS := Lib.hid hys
  obtain ⟨x, hx⟩ := get_some (xs := xs) (k := i) (by omega)
  have hw : wordV xs i = x := by unfold wordV; rw [if_pos ⟨h0, h3⟩, List.getD_eq_getElem?_getD, show (i : Int).toNat = i from rfl, hx]; rfl
  have hc : (memA xs)[i / 4 * 4 + i % 4]? = some (.int .u64 x) := memA_at (by rw [show i / 4 * 4 + i % 4 = i by omega]; exact hx)
  have hset : (memA xs).setIfInBounds (i / 4 * 4 + i % 4) (.int .u64 v) = memA ys := by
    rw [← hys, memA_set, show i / 4 * 4 + i % 4 = (i : Int).toNat by omega]
  have HSET := Lib.hid hset
  have s1 : (memA ys).size = 64 := by rw [size_memA, ← hys, List.length_set, hl]
  have b1 : i / 4 < 16 := by omega
  have b2 : i % 4 < 4 := by omega
  clear hset hys hx hl h0
  obtain rfl | rfl | rfl | rfl : k = 1 ∨ k = 2 ∨ k = 3 ∨ k = 4 := by omega
  · rw [show plainM xs 1 i v = xs from rfl, show plainV xs 1 i = x from hw]
    clear hk hw
    go_enter Try.func30, Try.ntmps30
    go_wp2
    go_quiet (fail)
    go_wp2_with (first
      | (refine wpList_load_r rfl 26 _ rfl _ rfl 64 _ Try.underlying26 rfl (by kernel_rfl) (by (simp [go_sem, s0]; done)) ?_; intro C hC; simp [go_sem] at hC; subst hC)
      | (refine wpList_store_r rfl 26 _ _ rfl _ rfl _ rfl 64 (by kernel_rfl) (by (simp [go_sem, s0]; done)) (by (simp [s0]; done)) (memA_one _) ?_; intro W hW; simp [go_sem] at hW; subst hW))
    refine bodyPost_ret (results_row_tmp rfl _ _ _ 64 _ rfl Try.underlying26 rfl (by kernel_rfl) (by simp [go_sem, s0]; done) (memA xs) ?_ _ rfl) rfl ⟨rfl, ?_⟩
    · simp [go_sem]
    · repeat (first | exact Below.refl _ _ | apply bs_later | apply bs_alloc | apply bs_drew | apply bs_drewN)
  · rw [show plainM xs 2 i v = ys from HYS.out, show plainV xs 2 i = 0 from rfl]
    clear hk hw
    go_enter Try.func30, Try.ntmps30
    go_wp2
    go_quiet (fail)
    go_wp2
    go_region
    go_simp
    simp only [HSET.out]
    go_wp2_with (first
      | (refine wpList_load_r rfl 26 _ rfl _ rfl 64 _ Try.underlying26 rfl (by kernel_rfl) (by (simp [go_sem, s1]; done)) ?_; intro C hC; simp [go_sem] at hC; subst hC)
      | (refine wpList_store_r rfl 26 _ _ rfl _ rfl _ rfl 64 (by kernel_rfl) (by (simp [go_sem, s1]; done)) (by (simp [s1]; done)) (memA_one _) ?_; intro W hW; simp [go_sem] at hW; subst hW))
    refine bodyPost_ret (results_row_tmp rfl _ _ _ 64 _ rfl Try.underlying26 rfl (by kernel_rfl) (by simp [go_sem, s1]; done) (memA ys) ?_ _ rfl) rfl ⟨rfl, ?_⟩
    · simp [go_sem]
    · repeat (first | exact Below.refl _ _ | apply bs_later | apply bs_alloc | apply bs_drew | apply bs_drewN)
  · rw [show plainM xs 3 i v = ys from HYS.out, show plainV xs 3 i = x from hw]
    clear hk hw
    go_enter Try.func30, Try.ntmps30
    go_wp2
    go_quiet (fail)
    go_wp2
    go_region
    go_simp
    simp only [HSET.out]
    go_wp2_with (first
      | (refine wpList_load_r rfl 26 _ rfl _ rfl 64 _ Try.underlying26 rfl (by kernel_rfl) (by (simp [go_sem, s1]; done)) ?_; intro C hC; simp [go_sem] at hC; subst hC)
      | (refine wpList_store_r rfl 26 _ _ rfl _ rfl _ rfl 64 (by kernel_rfl) (by (simp [go_sem, s1]; done)) (by (simp [s1]; done)) (memA_one _) ?_; intro W hW; simp [go_sem] at hW; subst hW))
    refine bodyPost_ret (results_row_tmp rfl _ _ _ 64 _ rfl Try.underlying26 rfl (by kernel_rfl) (by simp [go_sem, s1]; done) (memA ys) ?_ _ rfl) rfl ⟨rfl, ?_⟩
    · simp [go_sem]
    · repeat (first | exact Below.refl _ _ | apply bs_later | apply bs_alloc | apply bs_drew | apply bs_drewN)
  · rw [show plainM xs 4 i v = xs from rfl, show plainV xs 4 i = 0 from rfl]
    clear hk hw
    go_enter Try.func30, Try.ntmps30
    go_wp2
    go_quiet (fail)
    go_wp2_with (first
      | (refine wpList_load_r rfl 26 _ rfl _ rfl 64 _ Try.underlying26 rfl (by kernel_rfl) (by (simp [go_sem, s0]; done)) ?_; intro C hC; simp [go_sem] at hC; subst hC)
      | (refine wpList_store_r rfl 26 _ _ rfl _ rfl _ rfl 64 (by kernel_rfl) (by (simp [go_sem, s0]; done)) (by (simp [s0]; done)) (memA_one _) ?_; intro W hW; simp [go_sem] at hW; subst hW))
    refine bodyPost_ret (results_row_tmp rfl _ _ _ 64 _ rfl Try.underlying26 rfl (by kernel_rfl) (by simp [go_sem, s0]; done) (memA xs) ?_ _ rfl) rfl ⟨rfl, ?_⟩
    · simp [go_sem]
    · repeat (first | exact Below.refl _ _ | apply bs_later | apply bs_alloc | apply bs_drew | apply bs_drewN)
end Go.Proofs.Ytffhfpdmfegcpab.refAtomic
