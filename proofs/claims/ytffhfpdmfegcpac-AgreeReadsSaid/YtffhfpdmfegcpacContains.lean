/- The contract of slices.Contains at slices of int. -/
import Derived.Test.YtffhfpdmfegcpacKnob
import Derived.Test.YtffhfpdmfegcpacBase2
namespace Go.Proofs.Ytffhfpdmfegcpac.contains
open Go.ChangeShapes Go.WideShapes Go.ChangeAt Go.RowKit
open Go.Proofs.Ytffhfpdmfegcpac.base
set_option linter.unusedVariables false
set_option linter.unusedSimpArgs false

theorem get_none {α} {xs : List α} {x : α} (h : ∀ i y, i < xs.length → xs[i]? = some y → ¬ y = x) : ¬ x ∈ xs := by
  intro hm
  obtain ⟨i, hi, e⟩ := List.getElem_of_mem hm
  exact h i _ hi (List.getElem?_eq_getElem hi) e

def IdxPost (xs : List Int) (x : Int) (w : World) (e : Ending) (w' : World) : Prop := ∃ k : Int, e = .returned (.int .i64 k) ∧ ((x ∈ xs ∧ 0 ≤ k) ∨ (¬ x ∈ xs ∧ k = -1)) ∧ w = w'

set_option maxRecDepth 100000 in
theorem index_any (a : Option Addr) (c : Nat) (x : Int) (w : World) (xs : List Int) (hn : xs.length ≤ maxLen) (ha : IntsAt .i64 w a xs) :
    Calls Try.prog 57 #[.slice a xs.length c, .int .i64 x] w (IdxPost xs x w) := by
  unfold maxLen at hn
  rcases ha with rfl | ⟨b, off, rfl, hc⟩
  · go_enter Try.func57, Try.ntmps57
    go_wp2
    go_rounds 1
    go_ret
    exact ⟨-1, rfl, .inr ⟨by simp, rfl⟩, rfl⟩
  · obtain ⟨l, hl⟩ : ∃ l, xs.length = l := ⟨_, rfl⟩
    have HL := Lib.hid hl
    have HC := Lib.hid hc
    rw [hl] at hn ⊢
    clear hl hc
    go_enter Try.func57, Try.ntmps57
    go_wp2
    go_loop [8] (fun i => ∃ k : Nat, k ≤ l ∧ i = .int .i64 k ∧ Hid (∀ i y, i < k → xs[i]? = some y → ¬ y = x)) (fun i => l - (intOf i).toNat)
    case atStart => exact ⟨0, by omega, rfl, Lib.hid (fun i y h => absurd h (by omega))⟩
    case round =>
      obtain ⟨k, hk, rfl, HK⟩ := hrel
      by_cases hlt : k < l
      · obtain ⟨y, hy⟩ := get_some (xs := xs) (k := k) (by rw [HL.out]; exact hlt)
        have h1 := HC.out k y hy
        have HY := Lib.hid hy
        clear hy
        by_cases hxy : x = y
        · have h2 : (x == y) = true := by simpa using hxy
          have HXY := Lib.hid hxy
          clear hxy
          go_wp2
          go_ret
          exact ⟨_, rfl, .inl ⟨by rw [HXY.out]; exact List.mem_of_getElem? HY.out, Int.natCast_nonneg _⟩, rfl⟩
        · have h2 : (x == y) = false := by simpa using hxy
          have HXY := Lib.hid hxy
          clear hxy
          go_wp2
          go_round
          case rel => exact ⟨k + 1, by omega, by go_num, Lib.hid (fun i z hi hz => by
            rcases Nat.lt_succ_iff_lt_or_eq.1 hi with h | h
            · exact HK.out i z h hz
            · subst h
              rw [HY.out] at hz
              have := HXY.out
              injection hz with hz
              omega)⟩
          case measure => simp [intOf]; omega
      · obtain rfl : k = l := by omega
        go_wp2
        go_ret
        exact ⟨_, rfl, .inr ⟨get_none (by rw [HL.out]; exact HK.out), rfl⟩, rfl⟩

set_option maxRecDepth 100000 in
theorem contains_any (a : Option Addr) (c : Nat) (x : Int) (w : World) (xs : List Int) (hn : xs.length ≤ maxLen) (ha : IntsAt .i64 w a xs) :
    Calls Try.prog 21 #[.slice a xs.length c, .int .i64 x] w fun e w' => e = .returned (.bool (decide (x ∈ xs))) ∧ w = w' := by
  go_enter Try.func21, Try.ntmps21
  go_wp2_with fail
  refine (index_any a c x w xs hn ha).mono ?_
  rintro e w1 ⟨k, rfl, ⟨h, hk⟩ | ⟨h, hk⟩, rfl⟩
  · clear ha hn
    have hd := Lib.hid h
    clear h
    go_wp2
    go_ret
    exact ⟨ret_bool (decide_eq_true hd.out).symm, rfl⟩
  · subst hk
    clear ha hn
    have hd := Lib.hid h
    clear h
    go_wp2
    go_ret
    exact ⟨ret_bool (decide_eq_false hd.out).symm, rfl⟩
end Go.Proofs.Ytffhfpdmfegcpac.contains
