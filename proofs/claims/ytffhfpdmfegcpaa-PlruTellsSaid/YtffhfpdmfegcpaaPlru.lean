/- Contracts of package plru: what Check, Touch and Victim answer, at any arguments. -/
import Derived.Test.YtffhfpdmfegcpaaKnob
namespace Go.Proofs.Ytffhfpdmfegcpaa.plru
open Go.ChangeShapes Go.WideShapes Go.ChangeAt Go.RowKit
open Go.Proofs.Ytffhfpdmfegcpaa.base
set_option linter.unusedVariables false
set_option linter.unusedSimpArgs false

def plruE (a b c : Bool) (n : Int) : Int := if n < 1 ∨ 4 < n then 4 else if (a = true ∧ n < 2) ∨ (b = true ∧ n < 3) ∨ (c = true ∧ n < 4) then 3 else 0

set_option maxHeartbeats 4000000 in
set_option maxRecDepth 100000 in
theorem check_any (a b c : Bool) (n : Int) (w : World) : Calls Try.prog 35 #[.agg #[.bool a, .bool b, .bool c], .int .i64 n] w (Ret (.int .i64 (plruE a b c n)) w) := by
  by_cases h1 : n < 1
  · rw [show plruE a b c n = 4 from if_pos (.inl h1)]
    go_enter Try.func35, Try.ntmps35
    go_wp2
    go_ret
    exact ⟨rfl, by repeat (first | exact Below.refl _ _ | apply bs_later | apply bs_alloc | apply bs_drew | apply bs_drewN)⟩
  · by_cases h2 : 4 < n
    · rw [show plruE a b c n = 4 from if_pos (.inr h2)]
      go_enter Try.func35, Try.ntmps35
      go_wp2
      go_ret
      exact ⟨rfl, by repeat (first | exact Below.refl _ _ | apply bs_later | apply bs_alloc | apply bs_drew | apply bs_drewN)⟩
    · obtain rfl | rfl | rfl | rfl : n = 1 ∨ n = 2 ∨ n = 3 ∨ n = 4 := by omega
      all_goals
        clear h1 h2
        cases a <;> cases b <;> cases c
        all_goals
          go_enter Try.func35, Try.ntmps35
          go_wp2
          go_ret
          exact ⟨rfl, by repeat (first | exact Below.refl _ _ | apply bs_later | apply bs_alloc | apply bs_drew | apply bs_drewN)⟩

def touchE (a b c : Bool) (n k : Int) : Int := if plruE a b c n = 0 then (if k < 0 ∨ n ≤ k then 4 else 0) else plruE a b c n
/-- the tree behind Touch -/
def touchA (a b c : Bool) (n k : Int) : Bool := if touchE a b c n k = 0 then (if n = 2 then decide (k = 0) else if 2 < n then decide (k < 2) else a) else false
def touchB (a b c : Bool) (n k : Int) : Bool := if touchE a b c n k = 0 then (if 2 < n ∧ k < 2 then decide (k = 0) else b) else false
def touchC (a b c : Bool) (n k : Int) : Bool := if touchE a b c n k = 0 then (if 2 < n ∧ 2 ≤ k then decide (k = 2 ∧ n = 4) else c) else false

set_option maxHeartbeats 4000000 in
set_option maxRecDepth 100000 in
theorem touch_any (a b c : Bool) (n k : Int) (w : World) : Calls Try.prog 32 #[.agg #[.bool a, .bool b, .bool c], .int .i64 n, .int .i64 k] w
    (Ret (.tuple #[.agg #[.bool (touchA a b c n k), .bool (touchB a b c n k), .bool (touchC a b c n k)], .int .i64 (touchE a b c n k)]) w) := by
  by_cases h0 : plruE a b c n = 0
  · by_cases hk : k < 0 ∨ n ≤ k
    · have e : touchE a b c n k = 4 := by unfold touchE; rw [if_pos h0, if_pos hk]
      have ea : touchA a b c n k = false := by unfold touchA; rw [e]; rfl
      have eb : touchB a b c n k = false := by unfold touchB; rw [e]; rfl
      have ec : touchC a b c n k = false := by unfold touchC; rw [e]; rfl
      rw [e, ea, eb, ec]
      clear e ea eb ec
      rcases hk with hk | hk
      · go_enter Try.func32, Try.ntmps32
        go_wp2_with (go_at_call 35; refine (check_any _ _ _ _ _).mono ?_; rintro e w1 ⟨rfl, hb1⟩; obtain ⟨l1, d1, rfl⟩ := later_of hb1; clear hb1)
        go_returns
        exact ⟨rfl, by repeat (first | exact Below.refl _ _ | apply bs_later | apply bs_alloc | apply bs_drew | apply bs_drewN)⟩
      · by_cases hk0 : k < 0
        all_goals
          go_enter Try.func32, Try.ntmps32
          go_wp2_with (go_at_call 35; refine (check_any _ _ _ _ _).mono ?_; rintro e w1 ⟨rfl, hb1⟩; obtain ⟨l1, d1, rfl⟩ := later_of hb1; clear hb1)
          go_returns
          exact ⟨rfl, by repeat (first | exact Below.refl _ _ | apply bs_later | apply bs_alloc | apply bs_drew | apply bs_drewN)⟩
    · have hn : (n = 1 ∧ k = 0) ∨ (n = 2 ∧ k = 0) ∨ (n = 2 ∧ k = 1) ∨ (n = 3 ∧ k = 0) ∨ (n = 3 ∧ k = 1) ∨ (n = 3 ∧ k = 2) ∨ (n = 4 ∧ k = 0) ∨ (n = 4 ∧ k = 1) ∨ (n = 4 ∧ k = 2) ∨ (n = 4 ∧ k = 3) := by
        by_cases h1 : n < 1 ∨ 4 < n
        · rw [show plruE a b c n = 4 from if_pos h1] at h0; omega
        · omega
      have e : touchE a b c n k = 0 := by unfold touchE; rw [if_pos h0, if_neg hk]
      clear hk
      rcases hn with ⟨rfl, rfl⟩ | ⟨rfl, rfl⟩ | ⟨rfl, rfl⟩ | ⟨rfl, rfl⟩ | ⟨rfl, rfl⟩ | ⟨rfl, rfl⟩ | ⟨rfl, rfl⟩ | ⟨rfl, rfl⟩ | ⟨rfl, rfl⟩ | ⟨rfl, rfl⟩
      all_goals
        simp only [touchA, touchB, touchC, e, if_true]
        clear e
        go_enter Try.func32, Try.ntmps32
        go_wp2_with (go_at_call 35; refine (check_any _ _ _ _ _).mono ?_; rintro e w1 ⟨rfl, hb1⟩; obtain ⟨l1, d1, rfl⟩ := later_of hb1; clear hb1)
        go_returns
        exact ⟨rfl, by repeat (first | exact Below.refl _ _ | apply bs_later | apply bs_alloc | apply bs_drew | apply bs_drewN)⟩
  · have e : touchE a b c n k = plruE a b c n := by unfold touchE; rw [if_neg h0]
    have ea : touchA a b c n k = false := by unfold touchA; rw [e, if_neg h0]
    have eb : touchB a b c n k = false := by unfold touchB; rw [e, if_neg h0]
    have ec : touchC a b c n k = false := by unfold touchC; rw [e, if_neg h0]
    rw [e, ea, eb, ec]
    clear e ea eb ec
    have h0' : (plruE a b c n != 0) = true := by simpa using h0
    clear h0
    go_enter Try.func32, Try.ntmps32
    go_wp2_with (go_at_call 35; refine (check_any _ _ _ _ _).mono ?_; rintro e w1 ⟨rfl, hb1⟩; obtain ⟨l1, d1, rfl⟩ := later_of hb1; clear hb1)
    go_returns
    exact ⟨rfl, by repeat (first | exact Below.refl _ _ | apply bs_later | apply bs_alloc | apply bs_drew | apply bs_drewN)⟩

def bitI (x : Bool) : Int := if x = true then 1 else 0
def victimV (a b c : Bool) (n : Int) : Int := if plruE a b c n = 0 then (if n ≤ 2 then bitI a else if a = false then bitI b else 2 + bitI c) else 0

set_option maxHeartbeats 4000000 in
set_option maxRecDepth 100000 in
theorem victim_any (a b c : Bool) (n : Int) (w : World) : Calls Try.prog 33 #[.agg #[.bool a, .bool b, .bool c], .int .i64 n] w
    (Ret (.tuple #[.int .i64 (victimV a b c n), .int .i64 (plruE a b c n)]) w) := by
  by_cases h0 : plruE a b c n = 0
  · have hn : (n = 1) ∨ (n = 2) ∨ (n = 3) ∨ n = 4 := by
      by_cases h1 : n < 1 ∨ 4 < n
      · rw [show plruE a b c n = 4 from if_pos h1] at h0; omega
      · omega
    have e : victimV a b c n = (if n ≤ 2 then bitI a else if a = false then bitI b else 2 + bitI c) := if_pos h0
    rw [e, h0]
    clear e
    rcases hn with rfl | rfl | rfl | rfl
    all_goals
      cases a <;> cases b <;> cases c
      all_goals
        first
        | (exact absurd h0 (by decide))
        | (go_enter Try.func33, Try.ntmps33
           go_wp2_with (first
             | (go_at_call 35; refine (check_any _ _ _ _ _).mono ?_; rintro e w1 ⟨rfl, hb1⟩; obtain ⟨l1, d1, rfl⟩ := later_of hb1; clear hb1)
             | (go_at_call 55; go_in))
           go_ret2
           exact ⟨rfl, by repeat (first | exact Below.refl _ _ | apply bs_later | apply bs_alloc | apply bs_drew | apply bs_drewN)⟩)
  · have e : victimV a b c n = 0 := if_neg h0
    rw [e]
    have h0' : (plruE a b c n != 0) = true := by simpa using h0
    clear h0 e
    go_enter Try.func33, Try.ntmps33
    go_wp2_with (go_at_call 35; refine (check_any _ _ _ _ _).mono ?_; rintro e w1 ⟨rfl, hb1⟩; obtain ⟨l1, d1, rfl⟩ := later_of hb1; clear hb1)
    go_ret2
    exact ⟨rfl, by repeat (first | exact Below.refl _ _ | apply bs_later | apply bs_alloc | apply bs_drew | apply bs_drewN)⟩
end Go.Proofs.Ytffhfpdmfegcpaa.plru
