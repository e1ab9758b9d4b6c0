/- Packed lines, in plain Lean: bytes of words, words of bytes, and that each undoes the other. No function of the program is mentioned. -/
import Derived.Test.YtffhfpdmfegcpaaBase
import Derived.Laws.BytesArg
namespace Go.Proofs.Ytffhfpdmfegcpaa.pack
open Go.Proofs.Ytffhfpdmfegcpaa.base
set_option linter.unusedVariables false
set_option linter.unusedSimpArgs false

def sel (a b c d : Int) (q : Nat) : Int := if q = 0 then a else if q = 1 then b else if q = 2 then c else d
/-- byte j of a word, the greatest first -/
def byteOf (x : Int) (j : Nat) : Int := x / 256 ^ (7 - j) % 256
def packAt (a b c d : Int) (i : Nat) : Int := byteOf (sel a b c d (i / 8)) (i % 8)
def packL (a b c d : Int) : List Int := (List.range 32).map (packAt a b c d)
def packS (a b c d : Int) : ByteArray := strOfNums (packL a b c d)
/-- the word of k bytes from place o on -/
def word (f : Nat → Int) (o : Nat) : Nat → Int
  | 0 => 0
  | k + 1 => word f o k * 256 + f (o + k)
def byteAt (s : ByteArray) (i : Nat) : Int := (s.data[i]?.map (fun b => (b.toNat : Int))).getD 0
/-- word q when i bytes have been read -/
def unp (s : ByteArray) (q i : Nat) : Int := word (byteAt s) (8 * q) (min (i - 8 * q) 8)

theorem byteOf_pos (x : Int) (j : Nat) : 0 ≤ byteOf x j ∧ byteOf x j < 256 := by unfold byteOf; omega
theorem packAt_pos (a b c d : Int) (i : Nat) : 0 ≤ packAt a b c d i ∧ packAt a b c d i < 256 := byteOf_pos _ _
theorem byteAt_pos (s : ByteArray) (i : Nat) : 0 ≤ byteAt s i ∧ byteAt s i < 256 := by
  unfold byteAt
  cases h : s.data[i]? with
  | none => simp
  | some b => have := UInt8.toNat_lt b; simp; omega
theorem packL_len (a b c d : Int) : (packL a b c d).length = 32 := by simp [packL]
theorem packS_size (a b c d : Int) : (packS a b c d).size = 32 := by unfold packS; rw [strOfNums_size, packL_len]
theorem packL_at (a b c d : Int) {i : Nat} (h : i < 32) : (packL a b c d)[i]? = some (packAt a b c d i) := by simp [packL, h]
theorem byteAt_packS (a b c d : Int) {i : Nat} (h : i < 32) : byteAt (packS a b c d) i = packAt a b c d i := by
  have h1 := packAt_pos a b c d i
  unfold byteAt packS strOfNums
  simp only [List.getElem?_toArray, List.getElem?_map, packL_at a b c d h, Option.map_some, Option.getD_some]
  rw [UInt8.toNat_ofNat']
  omega
theorem pow_is : (256 : Int) ^ (7 - 0) = 72057594037927936 ∧ (256 : Int) ^ (7 - 1) = 281474976710656 ∧ (256 : Int) ^ (7 - 2) = 1099511627776 ∧ (256 : Int) ^ (7 - 3) = 4294967296 ∧ (256 : Int) ^ (7 - 4) = 16777216 ∧ (256 : Int) ^ (7 - 5) = 65536 ∧ (256 : Int) ^ (7 - 6) = 256 ∧ (256 : Int) ^ (7 - 7) = 1 := by decide
theorem word_of {f : Nat → Int} {o : Nat} {x : Int} (h0 : 0 ≤ x) (h1 : x < 18446744073709551616) (h : ∀ j, j < 8 → f (o + j) = byteOf x j) : word f o 8 = x := by
  obtain ⟨e0, e1, e2, e3, e4, e5, e6, e7⟩ := pow_is
  simp only [word, h 0 (by decide), h 1 (by decide), h 2 (by decide), h 3 (by decide), h 4 (by decide), h 5 (by decide), h 6 (by decide), h 7 (by decide), byteOf, e0, e1, e2, e3, e4, e5, e6, e7]
  omega
theorem byteOf_word {f : Nat → Int} {o j : Nat} (hf : ∀ i, 0 ≤ f i ∧ f i < 256) (hj : j < 8) : byteOf (word f o 8) j = f (o + j) := by
  obtain ⟨e0, e1, e2, e3, e4, e5, e6, e7⟩ := pow_is
  have g0 := hf (o + 0); have g1 := hf (o + 1); have g2 := hf (o + 2); have g3 := hf (o + 3)
  have g4 := hf (o + 4); have g5 := hf (o + 5); have g6 := hf (o + 6); have g7 := hf (o + 7)
  obtain rfl | rfl | rfl | rfl | rfl | rfl | rfl | rfl : j = 0 ∨ j = 1 ∨ j = 2 ∨ j = 3 ∨ j = 4 ∨ j = 5 ∨ j = 6 ∨ j = 7 := by omega
  all_goals
    simp only [word, byteOf, e0, e1, e2, e3, e4, e5, e6, e7]
    omega
theorem word_pos {f : Nat → Int} (hf : ∀ i, 0 ≤ f i ∧ f i < 256) (o : Nat) : ∀ k, 0 ≤ word f o k ∧ word f o k < 256 ^ k
  | 0 => by simp [word]
  | k + 1 => by
    have := word_pos hf o k
    have := hf (o + k)
    rw [Int.pow_succ]
    simp only [word]
    omega
theorem unp_pos (s : ByteArray) (q i : Nat) : 0 ≤ unp s q i ∧ unp s q i < 18446744073709551616 := by
  have h := word_pos (byteAt_pos s) (8 * q) (min (i - 8 * q) 8)
  refine ⟨h.1, Int.lt_of_lt_of_le h.2 ?_⟩
  obtain h | h | h | h | h | h | h | h | h : min (i - 8 * q) 8 = 0 ∨ min (i - 8 * q) 8 = 1 ∨ min (i - 8 * q) 8 = 2 ∨ min (i - 8 * q) 8 = 3 ∨ min (i - 8 * q) 8 = 4 ∨ min (i - 8 * q) 8 = 5 ∨ min (i - 8 * q) 8 = 6 ∨ min (i - 8 * q) 8 = 7 ∨ min (i - 8 * q) 8 = 8 := by omega
  all_goals rw [h]; decide
theorem wf_unp (s : ByteArray) (q i : Nat) : (Lit.int .u64 (unp s q i)).wf = true := by
  have := unp_pos s q i
  exact WalkArith.wf_u64 (by omega)
/-- packed lines are unpacked as they were -/
theorem unp_packS {a b c d : Int} (ha : 0 ≤ a ∧ a < 18446744073709551616) (hb : 0 ≤ b ∧ b < 18446744073709551616) (hc : 0 ≤ c ∧ c < 18446744073709551616) (hd : 0 ≤ d ∧ d < 18446744073709551616) :
    unp (packS a b c d) 0 32 = a ∧ unp (packS a b c d) 1 32 = b ∧ unp (packS a b c d) 2 32 = c ∧ unp (packS a b c d) 3 32 = d := by
  refine ⟨word_of ha.1 ha.2 fun j hj => ?_, word_of hb.1 hb.2 fun j hj => ?_, word_of hc.1 hc.2 fun j hj => ?_, word_of hd.1 hd.2 fun j hj => ?_⟩
  all_goals
    rw [byteAt_packS _ _ _ _ (by omega)]
    unfold packAt
  · rw [show (8 * 0 + j) / 8 = 0 by omega, show (8 * 0 + j) % 8 = j by omega]; rfl
  · rw [show (8 * 1 + j) / 8 = 1 by omega, show (8 * 1 + j) % 8 = j by omega]; rfl
  · rw [show (8 * 2 + j) / 8 = 2 by omega, show (8 * 2 + j) % 8 = j by omega]; rfl
  · rw [show (8 * 3 + j) / 8 = 3 by omega, show (8 * 3 + j) % 8 = j by omega]; rfl
theorem packAt_unp (s : ByteArray) {i : Nat} (h : i < 32) : packAt (unp s 0 32) (unp s 1 32) (unp s 2 32) (unp s 3 32) i = byteAt s i := by
  unfold packAt
  have h8 : i % 8 < 8 := by omega
  have hs : sel (unp s 0 32) (unp s 1 32) (unp s 2 32) (unp s 3 32) (i / 8) = word (byteAt s) (8 * (i / 8)) 8 := by
    obtain h | h | h | h : i / 8 = 0 ∨ i / 8 = 1 ∨ i / 8 = 2 ∨ i / 8 = 3 := by omega
    all_goals rw [h]; rfl
  rw [hs, byteOf_word (byteAt_pos s) h8]
  congr 1
  omega
theorem packS_unp {s : ByteArray} (h : s.size = 32) : packS (unp s 0 32) (unp s 1 32) (unp s 2 32) (unp s 3 32) = s := by
  have h' : s.data.size = 32 := h
  obtain ⟨D⟩ := s
  simp only at h'
  unfold packS strOfNums
  congr 1
  apply Array.ext_getElem?
  intro i
  by_cases hi : i < 32
  · simp only [List.getElem?_toArray, List.getElem?_map, packL_at _ _ _ _ hi, Option.map_some, packAt_unp ⟨D⟩ hi]
    unfold byteAt
    obtain ⟨x, hx⟩ : ∃ x, D[i]? = some x := ⟨D[i], Array.getElem?_eq_getElem (by omega)⟩
    simp [hx]
  · rw [Array.getElem?_eq_none (by simp [packL]; omega), Array.getElem?_eq_none (by omega)]
/-- one more byte -/
theorem unp_next (s : ByteArray) {q i : Nat} (h0 : 8 * q ≤ i) (h1 : i < 8 * q + 8) : unp s q (i + 1) = unp s q i * 256 + byteAt s i := by
  unfold unp
  rw [show min (i + 1 - 8 * q) 8 = (i - 8 * q) + 1 by omega, show min (i - 8 * q) 8 = i - 8 * q by omega]
  show word _ _ _ * 256 + byteAt s (8 * q + (i - 8 * q)) = _
  rw [show 8 * q + (i - 8 * q) = i by omega]
theorem unp_same (s : ByteArray) {q i : Nat} (h : i < 8 * q ∨ 8 * q + 8 ≤ i) : unp s q (i + 1) = unp s q i := by
  unfold unp
  rcases h with h | h
  · rw [show min (i + 1 - 8 * q) 8 = 0 by omega, show min (i - 8 * q) 8 = 0 by omega]
  · rw [show min (i + 1 - 8 * q) 8 = 8 by omega, show min (i - 8 * q) 8 = 8 by omega]
theorem unp_small (s : ByteArray) {q i : Nat} (h0 : 8 * q ≤ i) (h1 : i < 8 * q + 8) : 0 ≤ unp s q i ∧ unp s q i < 72057594037927936 := by
  have h := word_pos (byteAt_pos s) (8 * q) (min (i - 8 * q) 8)
  refine ⟨h.1, Int.lt_of_lt_of_le h.2 ?_⟩
  obtain h | h | h | h | h | h | h | h : min (i - 8 * q) 8 = 0 ∨ min (i - 8 * q) 8 = 1 ∨ min (i - 8 * q) 8 = 2 ∨ min (i - 8 * q) 8 = 3 ∨ min (i - 8 * q) 8 = 4 ∨ min (i - 8 * q) 8 = 5 ∨ min (i - 8 * q) 8 = 6 ∨ min (i - 8 * q) 8 = 7 := by omega
  all_goals rw [h]; decide
end Go.Proofs.Ytffhfpdmfegcpaa.pack
