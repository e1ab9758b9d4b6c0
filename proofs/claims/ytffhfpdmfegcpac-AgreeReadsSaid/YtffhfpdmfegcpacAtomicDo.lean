/- The contracts of atomic.do and atomic.Do. -/
import Derived.Test.YtffhfpdmfegcpacAtomic
namespace Go.Proofs.Ytffhfpdmfegcpac.atomic
open Go.ChangeShapes Go.WideShapes Go.ChangeAt Go.RowKit
open Go.Proofs.Ytffhfpdmfegcpac.base Go.Proofs.Ytffhfpdmfegcpac.flat Go.Proofs.Ytffhfpdmfegcpac.same Go.Proofs.Ytffhfpdmfegcpac.addr Go.Proofs.Ytffhfpdmfegcpac.bank
set_option linter.unusedVariables false
set_option linter.unusedSimpArgs false

/-- memory behind a deed, and what is told -/
def plainM (xs : List Int) (k a v : Int) : List Int := if k = 2 ∨ k = 3 then xs.set a.toNat v else xs
def plainV (xs : List Int) (k a : Int) : Int := if k = 1 ∨ k = 3 then wordV xs a else 0
theorem plainM_len (xs : List Int) (k a v : Int) : (plainM xs k a v).length = xs.length := by unfold plainM; split <;> simp

set_option maxHeartbeats 4000000 in
set_option maxRecDepth 100000 in
theorem do_ok (xs : List Int) (hl : xs.length = 64) (n k a v : Int) (w : World) (hk : 1 ≤ k ∧ k ≤ 4) (h0 : 0 ≤ a) (h3 : a ≤ 63) :
    Calls Try.prog 42 #[.agg (memA xs), .agg #[.int .i64 n, .int .i64 k, .int .i64 a, .int .u64 v]] w (Ret (.tuple #[.agg (memA (plainM xs k a v)), .int .u64 (plainV xs k a)]) w) := by
  have e0 : lineE a = 0 := if_pos ⟨h0, h3⟩
  have s0 : (memA xs).size = 64 := by rw [size_memA, hl]
  have HX := Lib.hid hl
  obtain ⟨ys, hys⟩ : ∃ ys, xs.set a.toNat v = ys := ⟨_, rfl⟩
  have s1 : (memA ys).size = 64 := by rw [size_memA, ← hys, List.length_set, hl]
  have P := fun w => poke_ok xs hl a v w h0 h3
  rw [hys] at P
  have HP := Lib.hid P
  have HYS := Lib.hid hys
  clear P hys hl
  obtain rfl | rfl | rfl | rfl : k = 1 ∨ k = 2 ∨ k = 3 ∨ k = 4 := by omega
  · rw [show plainM xs 1 a v = xs from rfl, show plainV xs 1 a = wordV xs a from rfl]
    clear hk
    go_enter Try.func42, Try.ntmps42
    go_wp2_with (first
      | (refine wpList_load_r rfl 26 _ rfl _ rfl 64 _ Try.underlying26 rfl (by kernel_rfl) (by (simp [go_sem, s0, s1]; done)) ?_; intro C hC; simp [go_sem] at hC; subst hC)
      | (refine wpList_store_r rfl 26 _ _ rfl _ rfl _ rfl 64 (by kernel_rfl) (by (simp [go_sem, s0, s1]; done)) (by (simp [s0, s1]; done)) (memA_one _) ?_; intro W hW; simp [go_sem] at hW; subst hW)
      | (go_at_call 71; refine (word_any xs HX.out _ _).mono ?_; rintro e w1 ⟨rfl, hb1⟩; obtain ⟨l1, d1, rfl⟩ := later_of hb1; clear hb1)
      | (go_at_call 72; refine (HP.out _).mono ?_; rintro e w1 ⟨rfl, hb1⟩; obtain ⟨l1, d1, rfl⟩ := later_of hb1; clear hb1))
    refine bodyPost_ret (results_row_tmp rfl _ _ _ 64 _ rfl Try.underlying26 rfl (by kernel_rfl) (by simp [go_sem, s0, s1]; done) (memA xs) ?_ _ rfl) rfl ⟨rfl, ?_⟩
    · simp [go_sem]
    · repeat (first | exact Below.refl _ _ | apply bs_later | apply bs_alloc | apply bs_drew | apply bs_drewN)
  · rw [show plainM xs 2 a v = ys from HYS.out, show plainV xs 2 a = 0 from rfl]
    clear hk
    go_enter Try.func42, Try.ntmps42
    go_wp2_with (first
      | (refine wpList_load_r rfl 26 _ rfl _ rfl 64 _ Try.underlying26 rfl (by kernel_rfl) (by (simp [go_sem, s0, s1]; done)) ?_; intro C hC; simp [go_sem] at hC; subst hC)
      | (refine wpList_store_r rfl 26 _ _ rfl _ rfl _ rfl 64 (by kernel_rfl) (by (simp [go_sem, s0, s1]; done)) (by (simp [s0, s1]; done)) (memA_one _) ?_; intro W hW; simp [go_sem] at hW; subst hW)
      | (go_at_call 71; refine (word_any xs HX.out _ _).mono ?_; rintro e w1 ⟨rfl, hb1⟩; obtain ⟨l1, d1, rfl⟩ := later_of hb1; clear hb1)
      | (go_at_call 72; refine (HP.out _).mono ?_; rintro e w1 ⟨rfl, hb1⟩; obtain ⟨l1, d1, rfl⟩ := later_of hb1; clear hb1))
    refine bodyPost_ret (results_row_tmp rfl _ _ _ 64 _ rfl Try.underlying26 rfl (by kernel_rfl) (by simp [go_sem, s0, s1]; done) (memA ys) ?_ _ rfl) rfl ⟨rfl, ?_⟩
    · simp [go_sem]
    · repeat (first | exact Below.refl _ _ | apply bs_later | apply bs_alloc | apply bs_drew | apply bs_drewN)
  · rw [show plainM xs 3 a v = ys from HYS.out, show plainV xs 3 a = wordV xs a from rfl]
    clear hk
    go_enter Try.func42, Try.ntmps42
    go_wp2_with (first
      | (refine wpList_load_r rfl 26 _ rfl _ rfl 64 _ Try.underlying26 rfl (by kernel_rfl) (by (simp [go_sem, s0, s1]; done)) ?_; intro C hC; simp [go_sem] at hC; subst hC)
      | (refine wpList_store_r rfl 26 _ _ rfl _ rfl _ rfl 64 (by kernel_rfl) (by (simp [go_sem, s0, s1]; done)) (by (simp [s0, s1]; done)) (memA_one _) ?_; intro W hW; simp [go_sem] at hW; subst hW)
      | (go_at_call 71; refine (word_any xs HX.out _ _).mono ?_; rintro e w1 ⟨rfl, hb1⟩; obtain ⟨l1, d1, rfl⟩ := later_of hb1; clear hb1)
      | (go_at_call 72; refine (HP.out _).mono ?_; rintro e w1 ⟨rfl, hb1⟩; obtain ⟨l1, d1, rfl⟩ := later_of hb1; clear hb1))
    refine bodyPost_ret (results_row_tmp rfl _ _ _ 64 _ rfl Try.underlying26 rfl (by kernel_rfl) (by simp [go_sem, s0, s1]; done) (memA ys) ?_ _ rfl) rfl ⟨rfl, ?_⟩
    · simp [go_sem]
    · repeat (first | exact Below.refl _ _ | apply bs_later | apply bs_alloc | apply bs_drew | apply bs_drewN)
  · rw [show plainM xs 4 a v = xs from rfl, show plainV xs 4 a = 0 from rfl]
    clear hk
    go_enter Try.func42, Try.ntmps42
    go_wp2_with (first
      | (refine wpList_load_r rfl 26 _ rfl _ rfl 64 _ Try.underlying26 rfl (by kernel_rfl) (by (simp [go_sem, s0, s1]; done)) ?_; intro C hC; simp [go_sem] at hC; subst hC)
      | (refine wpList_store_r rfl 26 _ _ rfl _ rfl _ rfl 64 (by kernel_rfl) (by (simp [go_sem, s0, s1]; done)) (by (simp [s0, s1]; done)) (memA_one _) ?_; intro W hW; simp [go_sem] at hW; subst hW)
      | (go_at_call 71; refine (word_any xs HX.out _ _).mono ?_; rintro e w1 ⟨rfl, hb1⟩; obtain ⟨l1, d1, rfl⟩ := later_of hb1; clear hb1)
      | (go_at_call 72; refine (HP.out _).mono ?_; rintro e w1 ⟨rfl, hb1⟩; obtain ⟨l1, d1, rfl⟩ := later_of hb1; clear hb1))
    refine bodyPost_ret (results_row_tmp rfl _ _ _ 64 _ rfl Try.underlying26 rfl (by kernel_rfl) (by simp [go_sem, s0, s1]; done) (memA xs) ?_ _ rfl) rfl ⟨rfl, ?_⟩
    · simp [go_sem]
    · repeat (first | exact Below.refl _ _ | apply bs_later | apply bs_alloc | apply bs_drew | apply bs_drewN)

section
variable {P : Program}
/-- a row and two slots are returned -/
theorem results_row_tmp2 {fn : Func} {p t u : Tmp} {ty : TypeId} (h : fn.results = #[.cell p ty, .tmp t, .tmp u]) (tmps : Array Value) (w : World) (n k : Nat) (d : TypeDesc)
    (hp : tmps.getD p undef = .pointer (some ⟨n, 0, none⟩)) (hu : P.underlying ty = some d) (hd : (match d with | .struct _ | .array _ _ => true | _ => false) = true) (hi : (P.info? ty).map (·.size) = some k) (hr : okRow w n k)
    (C : Array Value) (hC : rowOf w n = C) (v v' : Value) (hv : tmps.getD t undef = v) (hv' : tmps.getD u undef = v') : (results fn tmps).run P w = .ok (.tuple #[.agg C, v, v']) w := by
  have hp1 : tmps[p]?.getD undef = .pointer (some ⟨n, 0, none⟩) := by simpa using hp
  have hv1 : tmps[t]?.getD undef = v := by simpa using hv
  have hv2 : tmps[u]?.getD undef = v' := by simpa using hv'
  simp [results, h, hp1, hv1, hv2, asAddr, run_load_row w n ty k d hu hd hi hr, hC]
end

def zeroXs : List Int := List.replicate 64 0
theorem zeroXs_len : zeroXs.length = 64 := by decide
theorem zero_is : (#[.int .u64 0, .int .u64 0, .int .u64 0, .int .u64 0, .int .u64 0, .int .u64 0, .int .u64 0, .int .u64 0, .int .u64 0, .int .u64 0, .int .u64 0, .int .u64 0, .int .u64 0, .int .u64 0, .int .u64 0, .int .u64 0, .int .u64 0, .int .u64 0, .int .u64 0, .int .u64 0, .int .u64 0, .int .u64 0, .int .u64 0, .int .u64 0, .int .u64 0, .int .u64 0, .int .u64 0, .int .u64 0, .int .u64 0, .int .u64 0, .int .u64 0, .int .u64 0, .int .u64 0, .int .u64 0, .int .u64 0, .int .u64 0, .int .u64 0, .int .u64 0, .int .u64 0, .int .u64 0, .int .u64 0, .int .u64 0, .int .u64 0, .int .u64 0, .int .u64 0, .int .u64 0, .int .u64 0, .int .u64 0, .int .u64 0, .int .u64 0, .int .u64 0, .int .u64 0, .int .u64 0, .int .u64 0, .int .u64 0, .int .u64 0, .int .u64 0, .int .u64 0, .int .u64 0, .int .u64 0, .int .u64 0, .int .u64 0, .int .u64 0, .int .u64 0] : Array Value) = memA zeroXs := zero_mem
theorem right_pos {n k a v : Int} (h : rightE n k a v = 0) : (0 ≤ n ∧ n ≤ 7) ∧ (1 ≤ k ∧ k ≤ 4) ∧ (0 ≤ a ∧ a ≤ 63) ∧ ((k = 1 ∨ k = 4) → v = 0) := by
  unfold rightE at h
  split at h
  · omega
  · split at h
    · omega
    · split at h
      · omega
      · split at h
        · omega
        · rename_i h1 h2 h3 h4
          refine ⟨by omega, by omega, by omega, fun hk => ?_⟩
          exact Decidable.byContradiction fun hv => h4 ⟨hk, hv⟩

set_option maxHeartbeats 4000000 in
set_option maxRecDepth 100000 in
theorem Do_ok (xs : List Int) (hl : xs.length = 64) (n k a v : Int) (w : World) (h : rightE n k a v = 0) :
    Calls Try.prog 40 #[.agg (memA xs), .agg #[.int .i64 n, .int .i64 k, .int .i64 a, .int .u64 v]] w (Ret (.tuple #[.agg (memA (plainM xs k a v)), .int .u64 (plainV xs k a), .int .i64 0]) w) := by
  have s0 : (memA xs).size = 64 := by rw [size_memA, hl]
  have P := fun w => do_ok xs hl n k a v w (right_pos h).2.1 (right_pos h).2.2.1.1 (right_pos h).2.2.1.2
  have s1 : (memA (plainM xs k a v)).size = 64 := by rw [size_memA, plainM_len, hl]
  generalize plainM xs k a v = ys at *
  generalize plainV xs k a = z at *
  have HP := Lib.hid P
  clear P hl
  go_enter Try.func40, Try.ntmps40
  go_wp2_with (first
    | (refine wpList_load_r rfl 26 _ rfl _ rfl 64 _ Try.underlying26 rfl (by kernel_rfl) (by (simp [go_sem, s0, s1]; done)) ?_; intro C hC; simp [go_sem] at hC; subst hC)
    | (refine wpList_store_r rfl 26 _ _ rfl _ rfl _ rfl 64 (by kernel_rfl) (by (simp [go_sem, s0, s1]; done)) (by (simp [s0, s1]; done)) (memA_one _) ?_; intro W hW; simp [go_sem] at hW; subst hW)
    | (go_at_call 41; refine (right_any _ _ _ _ _).mono ?_; rintro e w1 ⟨rfl, hb1⟩; obtain ⟨l1, d1, rfl⟩ := later_of hb1; clear hb1)
    | (go_at_call 42; refine (HP.out _).mono ?_; rintro e w1 ⟨rfl, hb1⟩; obtain ⟨l1, d1, rfl⟩ := later_of hb1; clear hb1))
  refine bodyPost_ret (results_row_tmp2 rfl _ _ _ 64 _ rfl Try.underlying26 rfl (by kernel_rfl) (by simp [go_sem, s0, s1]; done) (memA ys) ?_ _ _ rfl rfl) rfl ⟨rfl, ?_⟩
  · simp [go_sem]
  · repeat (first | exact Below.refl _ _ | apply bs_later | apply bs_alloc | apply bs_drew | apply bs_drewN)

set_option maxHeartbeats 4000000 in
set_option maxRecDepth 100000 in
theorem Do_bad (xs : List Int) (hl : xs.length = 64) (n k a v : Int) (w : World) (h : ¬ rightE n k a v = 0) :
    Calls Try.prog 40 #[.agg (memA xs), .agg #[.int .i64 n, .int .i64 k, .int .i64 a, .int .u64 v]] w (Ret (.tuple #[.agg (memA zeroXs), .int .u64 0, .int .i64 (rightE n k a v)]) w) := by
  have h' : (rightE n k a v != 0) = true := by simpa using h
  clear h hl
  go_enter Try.func40, Try.ntmps40
  go_wp2_with (first
    | (refine wpList_store_r rfl 26 _ _ rfl _ rfl _ rfl 64 (by kernel_rfl) (by (simp only [go_sem, zero_size]; simp; done)) zero_size zero_one ?_; intro W hW; simp [go_sem] at hW; subst hW)
    | (go_at_call 41; refine (right_any _ _ _ _ _).mono ?_; rintro e w1 ⟨rfl, hb1⟩; obtain ⟨l1, d1, rfl⟩ := later_of hb1; clear hb1))
  refine bodyPost_ret (results_row_tmp2 rfl _ _ _ 64 _ rfl Try.underlying26 rfl (by kernel_rfl) (by simp only [go_sem, zero_size]; simp; done) (memA zeroXs) ?_ _ _ rfl rfl) rfl ⟨rfl, ?_⟩
  · rw [rowOf_later _ _ (by simp [go_sem]), rowOf_new _ _ (by simp)]
    exact zero_is
  · repeat (first | exact Below.refl _ _ | apply bs_later | apply bs_alloc | apply bs_drew | apply bs_drewN)
end Go.Proofs.Ytffhfpdmfegcpac.atomic
