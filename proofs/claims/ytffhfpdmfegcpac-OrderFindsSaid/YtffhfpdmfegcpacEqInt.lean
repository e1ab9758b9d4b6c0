/- The contract of slices.Equal at slices of int: it answers whether the two lists are the same; it writes nothing. -/
import Derived.Test.YtffhfpdmfegcpacRows
import Derived.Test.YtffhfpdmfegcpacBase
namespace Go.Proofs.Ytffhfpdmfegcpac.eqInt
open Go.ChangeShapes Go.WideShapes Go.ChangeAt Go.RowKit
set_option linter.unusedVariables false
set_option linter.unusedSimpArgs false
open Go.Proofs.Ytffhfpdmfegcpac.base

set_option maxRecDepth 100000 in
theorem equal_len (a b : Option Addr) (n c m d : Nat) (w : World) (hne : n ≠ m) (hn : n ≤ maxLen) (hm : m ≤ maxLen) :
    Calls Try.prog 33 #[.slice a n c, .slice b m d] w fun e w' => e = .returned (.bool false) ∧ w' = w := by
  unfold maxLen at hn hm
  have h1 : ((n : Int) != (m : Int)) = true := by simp; omega
  go_enter Try.func33, Try.ntmps33
  go_wp2
  go_ret
  exact ⟨rfl, rfl⟩

set_option maxRecDepth 100000 in
theorem equal_same (a b : Option Addr) (c d : Nat) (w : World) (xs ys : List Int) (hl : xs.length = ys.length) (hn : xs.length ≤ maxLen) (ha : IntsAt .i64 w a xs) (hb : IntsAt .i64 w b ys) :
    Calls Try.prog 33 #[.slice a xs.length c, .slice b ys.length d] w fun e w' => e = .returned (.bool (decide (xs = ys))) ∧ ∃ n, w' = w.drewN n := by
  unfold maxLen at hn
  rcases ha with rfl | ⟨ba, oa, rfl, hca⟩
  · have : ys = [] := by cases ys; rfl; simp at hl
    subst this
    go_enter Try.func33, Try.ntmps33
    go_wp2
    go_rounds 1
    go_ret
    exact ⟨by simp, 0, rfl⟩
  · rcases hb with rfl | ⟨bb, ob, rfl, hcb⟩
    · have : xs = [] := by cases xs; rfl; simp at hl
      subst this
      go_enter Try.func33, Try.ntmps33
      go_wp2
      go_rounds 1
      go_ret
      exact ⟨by simp, 0, rfl⟩
    · rw [← hl]
      obtain ⟨l, hxl⟩ : ∃ l, xs.length = l := ⟨_, rfl⟩
      have HX := Lib.hid hxl
      have HL : Hid (ys.length = l) := Lib.hid (by omega)
      have HCA := Lib.hid hca
      have HCB := Lib.hid hcb
      rw [hxl] at hn ⊢
      clear hl hca hcb hxl
      go_enter Try.func33, Try.ntmps33
      go_wp2
      go_loopw [13] (fun i w1 => ∃ k : Nat, k ≤ l ∧ i = .int .i64 k ∧ xs.take k = ys.take k ∧ ∃ n, w1 = w.drewN n) (fun i _ => l - (intOf i).toNat)
      case atStart => exact ⟨0, by omega, rfl, rfl, 0, rfl⟩
      case round =>
        obtain ⟨k, hk, rfl, ht, nw, rfl⟩ := hrel
        have HT := Lib.hid ht
        clear ht
        by_cases hlt : k < l
        · obtain ⟨x, hx⟩ := get_some (xs := xs) (k := k) (by rw [HX.out]; exact hlt)
          obtain ⟨y, hy⟩ := get_some (xs := ys) (k := k) (by rw [HL.out]; exact hlt)
          have h1 := HCA.out k x hx
          have h2 := HCB.out k y hy
          have HKX := Lib.hid hx
          have HKY := Lib.hid hy
          clear hx hy
          by_cases he : x = y
          · have he' : (x != y) = false := by simpa using he
            have he2 := Lib.hid he
            clear he
            go_wp2
            go_quiet (fail)
            go_wp2
            go_roundw
            case rel => exact ⟨k + 1, by omega, by go_num, take_eq_snoc HKX.out HKY.out HT.out he2.out, _, rfl⟩
            case measure => simp [intOf]; omega
          · have he' : (x != y) = true := by simpa using he
            have he2 := Lib.hid he
            clear he
            go_wp2
            go_quiet (fail)
            go_wp2
            go_ret
            exact ⟨ret_bool (decide_eq_false (ne_of_at HKX.out HKY.out he2.out)).symm, drewN2 _ _ _⟩
        · obtain rfl : k = l := by omega
          go_wp2
          go_ret
          exact ⟨ret_bool (decide_eq_true (eq_of_take (HX.out.trans HL.out.symm) (by rw [HX.out]; exact HT.out))).symm, _, rfl⟩

end Go.Proofs.Ytffhfpdmfegcpac.eqInt
