/- The contract of ringdoveref.PackOf. -/
import Derived.Test.YtffhfpdmfegcpaaPack
namespace Go.Proofs.Ytffhfpdmfegcpaa.pack
open Go.ChangeShapes Go.WideShapes Go.ChangeAt Go.RowKit
open Go.Proofs.Ytffhfpdmfegcpaa.base Go.Proofs.Ytffhfpdmfegcpaa.flat Go.Proofs.Ytffhfpdmfegcpaa.same Go.Proofs.Ytffhfpdmfegcpaa.words
set_option linter.unusedVariables false
set_option linter.unusedSimpArgs false

/-- the last j bytes of a word -/
def tailL (x : Int) (j : Nat) : List Int := (List.range j).map fun i => byteOf x (8 - j + i)
def tailS (x : Int) (j : Nat) : ByteArray := strOfNums (tailL x j)
/-- the first q words, packed -/
def outS (a b c d : Int) (q : Nat) : ByteArray := strOfNums ((List.range (8 * q)).map (packAt a b c d))

theorem strs_append (xs ys : List Int) : strOfNums xs ++ strOfNums ys = strOfNums (xs ++ ys) := by
  apply ByteArray.ext
  simp [strOfNums]
theorem tailS_size (x : Int) (j : Nat) : (tailS x j).size = j := by unfold tailS; rw [strOfNums_size]; simp [tailL]
theorem outS_size (a b c d : Int) (q : Nat) : (outS a b c d q).size = 8 * q := by unfold outS; rw [strOfNums_size]; simp
theorem tailS_next (x : Int) {j : Nat} (h : j < 8) : strOfNums [x / 256 ^ j % 256] ++ tailS x j = tailS x (j + 1) := by
  unfold tailS
  rw [strs_append]
  congr 1
  unfold tailL
  rw [List.range_succ_eq_map, List.map_cons, List.map_map]
  show x / 256 ^ j % 256 :: _ = byteOf x (8 - (j + 1) + 0) :: _
  congr 1
  · unfold byteOf
    rw [show 7 - (8 - (j + 1) + 0) = j by omega]
  · apply List.map_congr_left
    intro i hi
    have : i < j := by simpa using hi
    show byteOf x (8 - j + i) = byteOf x (8 - (j + 1) + (i + 1))
    congr 1
    omega
theorem outS_next (a b c d : Int) {q : Nat} {x : Int} (hx : sel a b c d q = x) : outS a b c d q ++ tailS x 8 = outS a b c d (q + 1) := by
  unfold outS tailS
  rw [strs_append]
  congr 1
  rw [show 8 * (q + 1) = 8 * q + 8 by omega, List.range_add, List.map_append, List.map_map]
  congr 1
  unfold tailL
  apply List.map_congr_left
  intro i hi
  have : i < 8 := by simpa using hi
  show byteOf x (8 - 8 + i) = packAt a b c d (8 * q + i)
  unfold packAt
  rw [show (8 * q + i) / 8 = q by omega, show (8 * q + i) % 8 = i by omega, hx]
  congr 1
  omega
theorem div_next (x : Int) (j : Nat) : x / 256 ^ j / 256 = x / 256 ^ (j + 1) := by
  rw [Int.pow_succ, Int.ediv_ediv_of_nonneg]
  exact Int.pow_nonneg (by decide)

def RelO (a b c d : Int) (W0 : World) (o i : Value) (wr : World) : Prop :=
  ∃ (q : Nat) (l : Array Obj) (dd : Nat), q ≤ 4 ∧ i = .int .i64 q ∧ o = .string (outS a b c d q) ∧ wr = W0.later l dd
def RelI (x : Int) (W0 : World) (s v i : Value) (wr : World) : Prop :=
  ∃ (j : Nat) (l : Array Obj) (dd : Nat), j ≤ 8 ∧ i = .int .i64 j ∧ s = .string (tailS x j) ∧ v = .int .u64 (x / 256 ^ j) ∧ wr = W0.later l dd

set_option maxHeartbeats 2000000 in
set_option maxRecDepth 100000 in
theorem packOf_any (a b c d : Int) (w : World) (wa : (Lit.int .u64 a).wf = true) (wb : (Lit.int .u64 b).wf = true) (wc : (Lit.int .u64 c).wf = true) (wd : (Lit.int .u64 d).wf = true) :
    Calls Try.prog 31 #[.agg #[.int .u64 a, .int .u64 b, .int .u64 c, .int .u64 d]] w (Ret (.string (packS a b c d)) w) := by
  have hr : ∀ q, 0 ≤ sel a b c d q ∧ sel a b c d q < 18446744073709551616 := fun q => by
    unfold sel
    have := wf_u64_range wa; have := wf_u64_range wb; have := wf_u64_range wc; have := wf_u64_range wd
    repeat' split
    all_goals assumption
  have HR := Lib.hid hr
  clear wa wb wc wd hr
  go_enter Try.func31, Try.ntmps31
  go_wp2
  go_loopw [3, 8] (RelO a b c d (w.alloc (.cells #[.int .u64 a, .int .u64 b, .int .u64 c, .int .u64 d] 29))) (fun _ i _ => 4 - (intOf i).toNat)
  case atStart => exact ⟨0, #[], _, by omega, rfl, rfl, later_zero _⟩
  case round =>
    obtain ⟨q, l, dd, hq, rfl, rfl, rfl⟩ := hrel
    by_cases hlt : q < 4
    · have e4 : q = 0 ∨ q = 1 ∨ q = 2 ∨ q = 3 := by omega
      obtain ⟨x, hx⟩ : ∃ x, sel a b c d q = x := ⟨_, rfl⟩
      have hi : ∀ w, (Instr.index 29 (.agg #[.int .u64 a, .int .u64 b, .int .u64 c, .int .u64 d]) (.int .i64 q)).run Try.prog w = .ok (.int .u64 x) w := fun w => by
        rw [← hx]
        rcases e4 with rfl | rfl | rfl | rfl <;> rfl
      have HX := Lib.hid hx
      have HP := Lib.hid (by rw [← hx]; exact HR.out q : 0 ≤ x ∧ x < 18446744073709551616)
      clear hx e4
      go_wp2
      go_loopw [5, 6, 11] (fun v s i wr => RelI x ((w.alloc (.cells #[.int .u64 a, .int .u64 b, .int .u64 c, .int .u64 d] 29)).later l dd) s v i wr) (fun _ _ i _ => 8 - (intOf i).toNat)
      case atStart => exact ⟨0, #[], _, by omega, rfl, rfl, by simp, later_zero _⟩
      case round =>
        obtain ⟨j, l2, d2, hj, rfl, rfl, rfl, rfl⟩ := hrel
        by_cases hlj : j < 8
        · have hy0 : 0 ≤ x / 256 ^ j := Int.ediv_nonneg HP.out.1 (Int.pow_nonneg (by decide))
          have hy1 : x / 256 ^ j ≤ 18446744073709551615 := by
            have h1 := Int.ediv_le_self (256 ^ j) HP.out.1
            have := HP.out.2
            omega
          have HT := Lib.hid (tailS_next x hlj)
          have HD := Lib.hid (div_next x j)
          generalize x / 256 ^ j = y at *
          have hsz : ¬ 9223372036854775807 < (strOfNums [y % 256]).size + (tailS x j).size := by rw [strOfNums_size, tailS_size]; simp; omega
          have hcv : (convert 84 9 (.slice (some ⟨w.heap.size + 1 + l.size + l2.size, 0, none⟩) 1 1)).run Try.prog ((((w.alloc (.cells #[.int .u64 a, .int .u64 b, .int .u64 c, .int .u64 d] 29)).later l dd).later l2 d2).alloc (.cells #[.int .u8 (y % 256)] 5)) = .ok (.string (strOfNums [y % 256])) ((((w.alloc (.cells #[.int .u64 a, .int .u64 b, .int .u64 c, .int .u64 d] 29)).later l dd).later l2 d2).alloc (.cells #[.int .u8 (y % 256)] 5)) :=
            run_convert_bytes_arg _ 84 5 Try.underlying84 Try.underlying5 _ 0 1 1 [y % 256] rfl (fun i hi => by
              obtain rfl : i = 0 := by omega
              rw [World.cell?_alloc_at _ _ _ _ (by simp)]; rfl) _ Try.underlying9
          have hm1 : y.tmod 256 = y % 256 := Int.tmod_eq_emod_of_nonneg hy0
          have hm2 : y % 256 % 256 = y % 256 := by omega
          go_wp2
          rw [later_alloc _ l2]
          refine ⟨⟨j + 1, _, d2, by omega, by go_num, by rw [HT.out], by rw [HD.out], rfl⟩, by simp [intOf]; omega⟩
        · obtain rfl : j = 8 := by omega
          have HO := Lib.hid (outS_next a b c d HX.out)
          have hsz : ¬ 9223372036854775807 < (outS a b c d q).size + (tailS x 8).size := by rw [outS_size, tailS_size]; omega
          go_wp2
          rw [later_later]
          refine ⟨⟨q + 1, l ++ l2, d2, by omega, by go_num, by rw [HO.out], rfl⟩, by simp [intOf]; omega⟩
    · obtain rfl : q = 4 := by omega
      go_wp2
      go_ret
      exact ⟨rfl, by repeat (first | exact Below.refl _ _ | apply bs_later | apply bs_alloc | apply bs_drew | apply bs_drewN)⟩
end Go.Proofs.Ytffhfpdmfegcpaa.pack
