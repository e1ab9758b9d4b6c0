/- The contracts of words.Pack, words.Unpack and ringdoveref.PackOf. -/
import Derived.Test.YtffhfpdmfegcpaaPackLaw
import Derived.Test.YtffhfpdmfegcpaaWords
import Derived.Test.YtffhfpdmfegcpaaMem
import Derived.Laws.BitsAllLaws
namespace Go.Proofs.Ytffhfpdmfegcpaa.pack
open Go.ChangeShapes Go.WideShapes Go.ChangeAt Go.RowKit
open Go.Proofs.Ytffhfpdmfegcpaa.base Go.Proofs.Ytffhfpdmfegcpaa.flat Go.Proofs.Ytffhfpdmfegcpaa.same Go.Proofs.Ytffhfpdmfegcpaa.words
set_option linter.unusedVariables false
set_option linter.unusedSimpArgs false

/-- the bytes when i of them have been written -/
def packA (a b c d : Int) (i : Nat) : Array Value := ((List.range 32).map fun j => Value.int .u8 (if j < i then packAt a b c d j else 0)).toArray
theorem packA_size (a b c d : Int) (i : Nat) : (packA a b c d i).size = 32 := by simp [packA]
theorem packA_set (a b c d : Int) {i : Nat} (h : i < 32) : (packA a b c d i).setIfInBounds i (.int .u8 (packAt a b c d i)) = packA a b c d (i + 1) := by
  apply Array.ext_getElem?
  intro j
  rw [Array.getElem?_setIfInBounds]
  by_cases hj : j < 32
  · simp only [packA, List.getElem?_toArray, List.getElem?_map, List.getElem?_range hj, Option.map_some]
    by_cases he : i = j
    · subst he; simp [h]
    · rw [if_neg he]
      by_cases h1 : j < i
      · rw [if_pos h1, if_pos (by omega)]
      · rw [if_neg h1, if_neg (by omega)]
  · rw [Array.getElem?_eq_none (by rw [packA_size]; omega), Array.getElem?_eq_none (by rw [packA_size]; omega)]
    split
    · omega
    · rfl

theorem packA_at (a b c d : Int) {i : Nat} (h : i < 32) : (packA a b c d 32)[i]? = some (.int .u8 ((packL a b c d).getD i 0)) := by
  rw [List.getD_eq_getElem?_getD, packL_at a b c d h]
  simp [packA, h]
theorem pow_two {r : Nat} (h : r < 8) : (2 : Int) ^ (56 - 8 * r) = 256 ^ (7 - r) := by
  obtain rfl | rfl | rfl | rfl | rfl | rfl | rfl | rfl : r = 0 ∨ r = 1 ∨ r = 2 ∨ r = 3 ∨ r = 4 ∨ r = 5 ∨ r = 6 ∨ r = 7 := by omega
  all_goals decide
theorem packA_start (a b c d : Int) : #[Value.int IntKind.u8 0, Value.int IntKind.u8 0, Value.int IntKind.u8 0, Value.int IntKind.u8 0,
          Value.int IntKind.u8 0, Value.int IntKind.u8 0, Value.int IntKind.u8 0, Value.int IntKind.u8 0,
          Value.int IntKind.u8 0, Value.int IntKind.u8 0, Value.int IntKind.u8 0, Value.int IntKind.u8 0,
          Value.int IntKind.u8 0, Value.int IntKind.u8 0, Value.int IntKind.u8 0, Value.int IntKind.u8 0,
          Value.int IntKind.u8 0, Value.int IntKind.u8 0, Value.int IntKind.u8 0, Value.int IntKind.u8 0,
          Value.int IntKind.u8 0, Value.int IntKind.u8 0, Value.int IntKind.u8 0, Value.int IntKind.u8 0,
          Value.int IntKind.u8 0, Value.int IntKind.u8 0, Value.int IntKind.u8 0, Value.int IntKind.u8 0,
          Value.int IntKind.u8 0, Value.int IntKind.u8 0, Value.int IntKind.u8 0, Value.int IntKind.u8 0] = packA a b c d 0 := rfl

def RelP (a b c d : Int) (W0 : World) (t : TypeId) (i : Value) (wr : World) : Prop :=
  ∃ (k : Nat) (l : Array Obj) (dd : Nat), k ≤ 32 ∧ i = .int .i64 k ∧ wr = (W0.alloc (.cells (packA a b c d k) t)).later l dd

set_option maxHeartbeats 2000000 in
set_option maxRecDepth 100000 in
theorem pack_any (a b c d : Int) (w : World) :
    Calls Try.prog 17 #[.agg #[.int .u64 a, .int .u64 b, .int .u64 c, .int .u64 d]] w (Ret (.string (packS a b c d)) w) := by
  go_enter Try.func17, Try.ntmps17
  go_wp2
  rw [packA_start a b c d]
  go_loopw [5] (RelP a b c d (w.alloc (.cells #[.int .u64 a, .int .u64 b, .int .u64 c, .int .u64 d] 29)) 83) (fun i _ => 32 - (intOf i).toNat)
  case atStart => exact ⟨0, #[], _, by omega, rfl, later_zero _⟩
  case round =>
    obtain ⟨k, l, dd, hk, rfl, rfl⟩ := hrel
    by_cases hlt : k < 32
    · have hq : k / 8 = 0 ∨ k / 8 = 1 ∨ k / 8 = 2 ∨ k / 8 = 3 := by omega
      have sz := packA_size a b c d k
      rcases hq with hq | hq | hq | hq
      all_goals
        go_wp2
        refine ⟨⟨k + 1, l, dd, by omega, by go_num, ?_⟩, by simp [intOf]; omega⟩
        rw [← packA_set a b c d hlt]
        unfold packAt byteOf
        rw [hq, ← pow_two (by omega)]
        rfl
    · obtain rfl : k = 32 := by omega
      have hcv : (convert 84 9 (.slice (some ⟨w.heap.size + 1, 0, none⟩) 32 32)).run Try.prog (((w.alloc (.cells #[.int .u64 a, .int .u64 b, .int .u64 c, .int .u64 d] 29)).alloc (.cells (packA a b c d 32) 83)).later l dd) = .ok (.string (packS a b c d)) (((w.alloc (.cells #[.int .u64 a, .int .u64 b, .int .u64 c, .int .u64 d] 29)).alloc (.cells (packA a b c d 32) 83)).later l dd) :=
        run_convert_bytes_arg _ 84 5 Try.underlying84 Try.underlying5 _ 0 32 32 (packL a b c d) (packL_len a b c d) (fun i hi => by simp [go_sem, packA_at a b c d hi]) _ Try.underlying9
      go_wp2
      go_ret
      exact ⟨rfl, by repeat (first | exact Below.refl _ _ | apply bs_later | apply bs_alloc | apply bs_drew | apply bs_drewN)⟩

set_option maxRecDepth 100000 in
theorem unpack_bad (s : ByteArray) (w : World) (h : ¬ s.size = 32) (hm : s.size ≤ maxLen) :
    Calls Try.prog 16 #[.string s] w (Ret (.tuple #[.agg #[.int .u64 0, .int .u64 0, .int .u64 0, .int .u64 0], .int .i64 3]) w) := by
  have h' : ((s.size : Int) != 32) = true := by simp; omega
  unfold maxLen at hm
  go_enter Try.func16, Try.ntmps16
  go_wp2
  go_returns
  exact ⟨rfl, by repeat (first | exact Below.refl _ _ | apply bs_later | apply bs_alloc | apply bs_drew | apply bs_drewN)⟩

theorem wrap_small {x : Int} (h0 : 0 ≤ x) (h1 : x < 18446744073709551616) : IntKind.u64.wrap x = x := by
  show x % 18446744073709551616 = x
  omega
theorem or_byte {x b : Int} (h0 : 0 ≤ x) (h1 : x < 72057594037927936) (h2 : 0 ≤ b) (h3 : b < 256) : bits BinOp.or IntKind.u64 (IntKind.u64.wrap (x * 256)) (IntKind.u64.wrap b) = x * 256 + b := by
  rw [wrap_small (by omega) (by omega), wrap_small (by omega) (by omega)]
  obtain ⟨x, rfl⟩ := Int.eq_ofNat_of_zero_le h0
  obtain ⟨b, rfl⟩ := Int.eq_ofNat_of_zero_le h2
  have h := u64_or_nat (x * 256) b (by omega) (by omega)
  have e : x * 256 ||| b = x * 256 + b := by
    have := Nat.two_pow_add_eq_or_of_lt (i := 8) (b := b) (by omega) x
    rw [Nat.mul_comm x 256]; exact this.symm
  rw [e] at h
  exact h
theorem byte_is {s : ByteArray} {k : Nat} (h : k < s.size) : byteAt s k = (s[k].toNat : Int) := by
  unfold byteAt
  have h' : k < s.data.size := h
  rw [Array.getElem?_eq_getElem h']
  rfl

theorem wf_u64_range {x : Int} (h : (Lit.int .u64 x).wf = true) : 0 ≤ x ∧ x < 18446744073709551616 := by
  have h' : IntKind.u64.min ≤ x ∧ x ≤ IntKind.u64.max := by simpa [Lit.wf] using h
  have h1 : (0 : Int) ≤ x := h'.1
  have h2 : x ≤ 18446744073709551615 := h'.2
  omega
def RelU (s : ByteArray) (W0 : World) (t : TypeId) (i : Value) (wr : World) : Prop :=
  ∃ (k : Nat) (l : Array Obj) (dd : Nat), k ≤ 32 ∧ i = .int .i64 k ∧ wr = (W0.alloc (.cells #[.int .u64 (unp s 0 k), .int .u64 (unp s 1 k), .int .u64 (unp s 2 k), .int .u64 (unp s 3 k)] t)).later l dd

set_option maxHeartbeats 2000000 in
set_option maxRecDepth 100000 in
theorem unpack_ok (s : ByteArray) (w : World) (h : s.size = 32) :
    Calls Try.prog 16 #[.string s] w (Ret (.tuple #[.agg #[.int .u64 (unp s 0 32), .int .u64 (unp s 1 32), .int .u64 (unp s 2 32), .int .u64 (unp s 3 32)], .int .i64 0]) w) := by
  have h' : ((s.size : Int) != 32) = false := by simp; omega
  go_enter Try.func16, Try.ntmps16
  go_wp2
  rw [show #[Value.int IntKind.u64 0, Value.int IntKind.u64 0, Value.int IntKind.u64 0, Value.int IntKind.u64 0] = #[.int .u64 (unp s 0 0), .int .u64 (unp s 1 0), .int .u64 (unp s 2 0), .int .u64 (unp s 3 0)] from rfl]
  go_loopw [12] (RelU s (w.alloc (.cells #[.int .u64 0, .int .u64 0, .int .u64 0, .int .u64 0] 29)) 29) (fun i _ => 32 - (intOf i).toNat)
  case atStart => exact ⟨0, #[], _, by omega, rfl, later_zero _⟩
  case round =>
    obtain ⟨k, l, dd, hk, rfl, rfl⟩ := hrel
    by_cases hlt : k < 32
    · have hq : k / 8 = 0 ∨ k / 8 = 1 ∨ k / 8 = 2 ∨ k / 8 = 3 := by omega
      have HQ : Hid (∀ q, k / 8 = q → unp s q (k + 1) = bits BinOp.or IntKind.u64 (IntKind.u64.wrap (unp s q k * 256)) (IntKind.u64.wrap (byteAt s k))) := Lib.hid fun q hq => by
        have h1 := unp_small s (q := q) (i := k) (by omega) (by omega)
        have h2 := byteAt_pos s k
        rw [or_byte h1.1 h1.2 h2.1 h2.2, unp_next s (by omega) (by omega)]
      have HU : Hid (∀ q, k / 8 ≠ q → unp s q (k + 1) = unp s q k) := Lib.hid fun q hq => unp_same s (by omega)
      have HB := Lib.hid (byte_is (s := s) (k := k) (by omega))
      rcases hq with hq | hq | hq | hq
      all_goals
        have HK := Lib.hid hq
        go_wp2
        go_region
        go_simp
        go_wp2
        refine ⟨⟨k + 1, l, dd + 1, by omega, by go_num, ?_⟩, by simp [intOf]; omega⟩
      · rw [HQ.out 0 HK.out, HU.out 1 (by rw [HK.out]; decide), HU.out 2 (by rw [HK.out]; decide), HU.out 3 (by rw [HK.out]; decide), HB.out]
      · rw [HQ.out 1 HK.out, HU.out 0 (by rw [HK.out]; decide), HU.out 2 (by rw [HK.out]; decide), HU.out 3 (by rw [HK.out]; decide), HB.out]
      · rw [HQ.out 2 HK.out, HU.out 1 (by rw [HK.out]; decide), HU.out 0 (by rw [HK.out]; decide), HU.out 3 (by rw [HK.out]; decide), HB.out]
      · rw [HQ.out 3 HK.out, HU.out 1 (by rw [HK.out]; decide), HU.out 2 (by rw [HK.out]; decide), HU.out 0 (by rw [HK.out]; decide), HB.out]
    · obtain rfl : k = 32 := by omega
      go_wp2
      go_returns
      exact ⟨rfl, by repeat (first | exact Below.refl _ _ | apply bs_later | apply bs_alloc | apply bs_drew | apply bs_drewN)⟩
end Go.Proofs.Ytffhfpdmfegcpaa.pack
