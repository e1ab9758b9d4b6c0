/- Contracts of package addr: what each function answers, at any arguments. -/
import Derived.Test.YtffhfpdmfegcpaaKnob
namespace Go.Proofs.Ytffhfpdmfegcpaa.addr
open Go.ChangeShapes Go.WideShapes Go.ChangeAt Go.RowKit
open Go.Proofs.Ytffhfpdmfegcpaa.base
set_option linter.unusedVariables false
set_option linter.unusedSimpArgs false

/-- a config that is right -/
def CfgOK (n s y b : Int) : Prop := 2 ≤ n ∧ n ≤ 8 ∧ 1 ≤ s ∧ s ≤ 4 ∧ ¬ s = 3 ∧ 1 ≤ y ∧ y ≤ 4 ∧ 1 ≤ b ∧ b ≤ 4
instance (n s y b : Int) : Decidable (CfgOK n s y b) := by unfold CfgOK; exact inferInstance
def cfgE (n s y b : Int) : Int := if CfgOK n s y b then 0 else 4
theorem cfgE_ok {n s y b : Int} (h : CfgOK n s y b) : cfgE n s y b = 0 := if_pos h
theorem cfgE_bad {n s y b : Int} (h : ¬ CfgOK n s y b) : cfgE n s y b = 4 := if_neg h

def spanB (k lo hi : Int) : Bool := decide (lo ≤ k ∧ k ≤ hi)
theorem spanB_iff {k lo hi : Int} : spanB k lo hi = true ↔ lo ≤ k ∧ k ≤ hi := by unfold spanB; exact decide_eq_true_iff
theorem spanB_yes {k lo hi : Int} (h : lo ≤ k ∧ k ≤ hi) : spanB k lo hi = true := spanB_iff.2 h
theorem spanB_no {k lo hi : Int} (h : k < lo ∨ hi < k) : spanB k lo hi = false := by
  cases e : spanB k lo hi with
  | false => rfl
  | true => rw [spanB_iff] at e; omega

set_option maxRecDepth 100000 in
theorem span_any (k lo hi : Int) (w : World) : Calls Try.prog 53 #[.int .i64 k, .int .i64 lo, .int .i64 hi] w fun e w' => e = .returned (.bool (spanB k lo hi)) ∧ w = w' := by
  by_cases h1 : lo ≤ k
  · by_cases h2 : k ≤ hi
    · go_enter Try.func53, Try.ntmps53
      go_wp2
      go_ret
      exact ⟨ret_bool (spanB_yes ⟨h1, h2⟩).symm, rfl⟩
    · go_enter Try.func53, Try.ntmps53
      go_wp2
      go_ret
      exact ⟨ret_bool (spanB_no (by omega)).symm, rfl⟩
  · go_enter Try.func53, Try.ntmps53
    go_wp2
    go_ret
    exact ⟨ret_bool (spanB_no (by omega)).symm, rfl⟩

set_option maxHeartbeats 1000000 in
set_option maxRecDepth 100000 in
theorem check_any (n s y b : Int) (w : World) : Calls Try.prog 28 #[.agg #[.int .i64 n, .int .i64 s, .int .i64 y, .int .i64 b]] w (Ret (.int .i64 (cfgE n s y b)) w) := by
  have key : cfgE n s y b = if (spanB n 2 8 && (spanB s 1 4 && (!(s == 3) && (spanB y 1 4 && spanB b 1 4)))) = true then 0 else 4 := by
    unfold cfgE
    congr 1
    simp only [Bool.and_eq_true, spanB_iff, Bool.not_eq_true', beq_eq_false_iff_ne, ne_eq, CfgOK, eq_iff_iff]
    omega
  rw [key]
  clear key
  cases h1 : spanB n 2 8
  case' true => cases h2 : spanB s 1 4
  case' true.true => cases h3 : (s == 3)
  case' true.true.false => cases h4 : spanB y 1 4
  case' true.true.false.true => cases h5 : spanB b 1 4
  all_goals
    go_enter Try.func28, Try.ntmps28
    go_wp2_with (go_at_call 53; refine (span_any _ _ _ _).mono ?_; rintro e w1 ⟨rfl, rfl⟩)
    go_ret
    exact ⟨rfl, by repeat (first | exact Below.refl _ _ | apply bs_later | apply bs_alloc | apply bs_drew | apply bs_drewN)⟩

/-- Line -/
def lineQ (a : Int) : Int := if 0 ≤ a ∧ a ≤ 63 then a / 4 else 0
def lineR (a : Int) : Int := if 0 ≤ a ∧ a ≤ 63 then a % 4 else 0
def lineE (a : Int) : Int := if 0 ≤ a ∧ a ≤ 63 then 0 else 4
set_option maxRecDepth 100000 in
theorem line_any (a : Int) (w : World) : Calls Try.prog 22 #[.int .i64 a] w fun e w' => e = .returned (.tuple #[.int .i64 (lineQ a), .int .i64 (lineR a), .int .i64 (lineE a)]) ∧ w = w' := by
  by_cases h : 0 ≤ a ∧ a ≤ 63
  · have e1 : lineQ a = a / 4 := if_pos h
    have e2 : lineR a = a % 4 := if_pos h
    have e3 : lineE a = 0 := if_pos h
    rw [e1, e2, e3]
    clear e1 e2 e3
    have h1 := spanB_yes h
    obtain ⟨h2, h3⟩ := h
    go_enter Try.func22, Try.ntmps22
    go_wp2_with (go_at_call 53; refine (span_any _ _ _ _).mono ?_; rintro e w1 ⟨rfl, rfl⟩)
    go_ret3
    exact ⟨rfl, rfl⟩
  · have e1 : lineQ a = 0 := if_neg h
    have e2 : lineR a = 0 := if_neg h
    have e3 : lineE a = 4 := if_neg h
    rw [e1, e2, e3]
    have h1 : spanB a 0 63 = false := spanB_no (by omega)
    clear e1 e2 e3 h
    go_enter Try.func22, Try.ntmps22
    go_wp2_with (go_at_call 53; refine (span_any _ _ _ _).mono ?_; rintro e w1 ⟨rfl, rfl⟩)
    go_ret3
    exact ⟨rfl, rfl⟩

/-- Node -/
def NodeOK (n s y b f k : Int) : Prop := CfgOK n s y b ∧ 0 ≤ f ∧ f ≤ n - 1 ∧ 0 ≤ k
instance (n s y b f k : Int) : Decidable (NodeOK n s y b f k) := by unfold NodeOK; exact inferInstance
def nodeV (n s y b f k : Int) : Int := if NodeOK n s y b f k then (f + k % n) % n else 0
def nodeE (n s y b f k : Int) : Int := if NodeOK n s y b f k then 0 else 4
set_option maxHeartbeats 1000000 in
set_option maxRecDepth 100000 in
theorem node_any (n s y b f k : Int) (w : World) (hk : k ≤ 9223372036854775807) : Calls Try.prog 25 #[.agg #[.int .i64 n, .int .i64 s, .int .i64 y, .int .i64 b], .int .i64 f, .int .i64 k] w
    (Ret (.tuple #[.int .i64 (nodeV n s y b f k), .int .i64 (nodeE n s y b f k)]) w) := by
  by_cases h : NodeOK n s y b f k
  · have e1 : nodeV n s y b f k = (f + k % n) % n := if_pos h
    have e2 : nodeE n s y b f k = 0 := if_pos h
    rw [e1, e2]
    clear e1 e2
    obtain ⟨h0, h1, h2, h3⟩ := h
    have c := cfgE_ok h0
    obtain ⟨g1, g2, -⟩ := h0
    have hs := spanB_yes ⟨h1, h2⟩
    have m1 : 0 ≤ k % n := Int.emod_nonneg k (by omega)
    have m2 : k % n < n := Int.emod_lt_of_pos k (by omega)
    go_enter Try.func25, Try.ntmps25
    go_wp2_with (first
      | (go_at_call 28; refine (check_any _ _ _ _ _).mono ?_; rintro e w1 ⟨rfl, hb1⟩; obtain ⟨l1, d1, rfl⟩ := later_of hb1; clear hb1)
      | (go_at_call 53; refine (span_any _ _ _ _).mono ?_; rintro e w1 ⟨rfl, rfl⟩))
    go_quiet (fail)
    go_wp2
    go_ret2
    exact ⟨rfl, by repeat (first | exact Below.refl _ _ | apply bs_later | apply bs_alloc | apply bs_drew | apply bs_drewN)⟩
  · have e1 : nodeV n s y b f k = 0 := if_neg h
    have e2 : nodeE n s y b f k = 4 := if_neg h
    rw [e1, e2]
    clear e1 e2
    by_cases h0 : CfgOK n s y b
    · have c := cfgE_ok h0
      obtain ⟨g1, g2, -⟩ := id h0
      by_cases h1 : 0 ≤ f ∧ f ≤ n - 1
      · have hs := spanB_yes h1
        have hk2 : k < 0 := by
          rcases Int.lt_or_le k 0 with h2 | h2
          · exact h2
          · exact absurd ⟨h0, h1.1, h1.2, h2⟩ h
        clear h h0 h1
        go_enter Try.func25, Try.ntmps25
        go_wp2_with (first
          | (go_at_call 28; refine (check_any _ _ _ _ _).mono ?_; rintro e w1 ⟨rfl, hb1⟩; obtain ⟨l1, d1, rfl⟩ := later_of hb1; clear hb1)
          | (go_at_call 53; refine (span_any _ _ _ _).mono ?_; rintro e w1 ⟨rfl, rfl⟩))
        go_ret2
        exact ⟨rfl, by repeat (first | exact Below.refl _ _ | apply bs_later | apply bs_alloc | apply bs_drew | apply bs_drewN)⟩
      · have hs : spanB f 0 (n - 1) = false := spanB_no (by omega)
        clear h h0 h1
        go_enter Try.func25, Try.ntmps25
        go_wp2_with (first
          | (go_at_call 28; refine (check_any _ _ _ _ _).mono ?_; rintro e w1 ⟨rfl, hb1⟩; obtain ⟨l1, d1, rfl⟩ := later_of hb1; clear hb1)
          | (go_at_call 53; refine (span_any _ _ _ _).mono ?_; rintro e w1 ⟨rfl, rfl⟩))
        go_ret2
        exact ⟨rfl, by repeat (first | exact Below.refl _ _ | apply bs_later | apply bs_alloc | apply bs_drew | apply bs_drewN)⟩
    · have c := cfgE_bad h0
      clear h h0
      go_enter Try.func25, Try.ntmps25
      go_wp2_with (go_at_call 28; refine (check_any _ _ _ _ _).mono ?_; rintro e w1 ⟨rfl, hb1⟩; obtain ⟨l1, d1, rfl⟩ := later_of hb1; clear hb1)
      go_ret2
      exact ⟨rfl, by repeat (first | exact Below.refl _ _ | apply bs_later | apply bs_alloc | apply bs_drew | apply bs_drewN)⟩

/-- Set, Bank -/
def partE (n s y b l : Int) : Int := if CfgOK n s y b ∧ 0 ≤ l ∧ l ≤ 15 then 0 else 4

def setV (n s y b l : Int) : Int := if CfgOK n s y b ∧ 0 ≤ l ∧ l ≤ 15 then l % s else 0
set_option maxHeartbeats 1000000 in
set_option maxRecDepth 100000 in
theorem set_any (n s y b l : Int) (w : World) : Calls Try.prog 23 #[.agg #[.int .i64 n, .int .i64 s, .int .i64 y, .int .i64 b], .int .i64 l] w
    (Ret (.tuple #[.int .i64 (setV n s y b l), .int .i64 (partE n s y b l)]) w) := by
  by_cases h0 : CfgOK n s y b
  · have c := cfgE_ok h0
    by_cases h1 : 0 ≤ l ∧ l ≤ 15
    · have e1 : setV n s y b l = l % s := if_pos ⟨h0, h1⟩
      have e2 : partE n s y b l = 0 := if_pos ⟨h0, h1⟩
      have hs := spanB_yes h1
      rw [e1, e2]
      have g1 : 1 ≤ s ∧ s ≤ 4 := by unfold CfgOK at h0; omega
      obtain ⟨g1, g2⟩ := g1
      obtain ⟨h2, h3⟩ := h1
      clear h0 e1 e2
      go_enter Try.func23, Try.ntmps23
      go_wp2_with (first
      | (go_at_call 54; go_in)
      | (go_at_call 28; refine (check_any _ _ _ _ _).mono ?_; rintro e w1 ⟨rfl, hb1⟩; obtain ⟨l1, d1, rfl⟩ := later_of hb1; clear hb1)
      | (go_at_call 53; refine (span_any _ _ _ _).mono ?_; rintro e w1 ⟨rfl, rfl⟩))
      go_ret2
      exact ⟨rfl, by repeat (first | exact Below.refl _ _ | apply bs_later | apply bs_alloc | apply bs_drew | apply bs_drewN)⟩
    · have e1 : setV n s y b l = 0 := if_neg (fun h => h1 h.2)
      have e2 : partE n s y b l = 4 := if_neg (fun h => h1 h.2)
      have hs : spanB l 0 15 = false := spanB_no (by omega)
      rw [e1, e2]
      clear h0 h1 e1 e2
      go_enter Try.func23, Try.ntmps23
      go_wp2_with (first
      | (go_at_call 54; go_in)
      | (go_at_call 28; refine (check_any _ _ _ _ _).mono ?_; rintro e w1 ⟨rfl, hb1⟩; obtain ⟨l1, d1, rfl⟩ := later_of hb1; clear hb1)
      | (go_at_call 53; refine (span_any _ _ _ _).mono ?_; rintro e w1 ⟨rfl, rfl⟩))
      go_ret2
      exact ⟨rfl, by repeat (first | exact Below.refl _ _ | apply bs_later | apply bs_alloc | apply bs_drew | apply bs_drewN)⟩
  · have e1 : setV n s y b l = 0 := if_neg (fun h => h0 h.1)
    have e2 : partE n s y b l = 4 := if_neg (fun h => h0 h.1)
    have c := cfgE_bad h0
    rw [e1, e2]
    clear h0 e1 e2
    go_enter Try.func23, Try.ntmps23
    go_wp2_with (first
      | (go_at_call 54; go_in)
      | (go_at_call 28; refine (check_any _ _ _ _ _).mono ?_; rintro e w1 ⟨rfl, hb1⟩; obtain ⟨l1, d1, rfl⟩ := later_of hb1; clear hb1)
      | (go_at_call 53; refine (span_any _ _ _ _).mono ?_; rintro e w1 ⟨rfl, rfl⟩))
    go_ret2
    exact ⟨rfl, by repeat (first | exact Below.refl _ _ | apply bs_later | apply bs_alloc | apply bs_drew | apply bs_drewN)⟩

def bankV (n s y b l : Int) : Int := if CfgOK n s y b ∧ 0 ≤ l ∧ l ≤ 15 then l % b else 0
set_option maxHeartbeats 1000000 in
set_option maxRecDepth 100000 in
theorem bank_any (n s y b l : Int) (w : World) : Calls Try.prog 24 #[.agg #[.int .i64 n, .int .i64 s, .int .i64 y, .int .i64 b], .int .i64 l] w
    (Ret (.tuple #[.int .i64 (bankV n s y b l), .int .i64 (partE n s y b l)]) w) := by
  by_cases h0 : CfgOK n s y b
  · have c := cfgE_ok h0
    by_cases h1 : 0 ≤ l ∧ l ≤ 15
    · have e1 : bankV n s y b l = l % b := if_pos ⟨h0, h1⟩
      have e2 : partE n s y b l = 0 := if_pos ⟨h0, h1⟩
      have hs := spanB_yes h1
      rw [e1, e2]
      have g1 : 1 ≤ b ∧ b ≤ 4 := by unfold CfgOK at h0; omega
      obtain ⟨g1, g2⟩ := g1
      obtain ⟨h2, h3⟩ := h1
      clear h0 e1 e2
      go_enter Try.func24, Try.ntmps24
      go_wp2_with (first
      | (go_at_call 54; go_in)
      | (go_at_call 28; refine (check_any _ _ _ _ _).mono ?_; rintro e w1 ⟨rfl, hb1⟩; obtain ⟨l1, d1, rfl⟩ := later_of hb1; clear hb1)
      | (go_at_call 53; refine (span_any _ _ _ _).mono ?_; rintro e w1 ⟨rfl, rfl⟩))
      go_ret2
      exact ⟨rfl, by repeat (first | exact Below.refl _ _ | apply bs_later | apply bs_alloc | apply bs_drew | apply bs_drewN)⟩
    · have e1 : bankV n s y b l = 0 := if_neg (fun h => h1 h.2)
      have e2 : partE n s y b l = 4 := if_neg (fun h => h1 h.2)
      have hs : spanB l 0 15 = false := spanB_no (by omega)
      rw [e1, e2]
      clear h0 h1 e1 e2
      go_enter Try.func24, Try.ntmps24
      go_wp2_with (first
      | (go_at_call 54; go_in)
      | (go_at_call 28; refine (check_any _ _ _ _ _).mono ?_; rintro e w1 ⟨rfl, hb1⟩; obtain ⟨l1, d1, rfl⟩ := later_of hb1; clear hb1)
      | (go_at_call 53; refine (span_any _ _ _ _).mono ?_; rintro e w1 ⟨rfl, rfl⟩))
      go_ret2
      exact ⟨rfl, by repeat (first | exact Below.refl _ _ | apply bs_later | apply bs_alloc | apply bs_drew | apply bs_drewN)⟩
  · have e1 : bankV n s y b l = 0 := if_neg (fun h => h0 h.1)
    have e2 : partE n s y b l = 4 := if_neg (fun h => h0 h.1)
    have c := cfgE_bad h0
    rw [e1, e2]
    clear h0 e1 e2
    go_enter Try.func24, Try.ntmps24
    go_wp2_with (first
      | (go_at_call 54; go_in)
      | (go_at_call 28; refine (check_any _ _ _ _ _).mono ?_; rintro e w1 ⟨rfl, hb1⟩; obtain ⟨l1, d1, rfl⟩ := later_of hb1; clear hb1)
      | (go_at_call 53; refine (span_any _ _ _ _).mono ?_; rintro e w1 ⟨rfl, rfl⟩))
    go_ret2
    exact ⟨rfl, by repeat (first | exact Below.refl _ _ | apply bs_later | apply bs_alloc | apply bs_drew | apply bs_drewN)⟩
end Go.Proofs.Ytffhfpdmfegcpaa.addr
