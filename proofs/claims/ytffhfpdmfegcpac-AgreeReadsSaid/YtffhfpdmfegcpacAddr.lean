/- Contracts of package addr: what each function answers, at any arguments. -/
import Derived.Test.YtffhfpdmfegcpacKnob
namespace Go.Proofs.Ytffhfpdmfegcpac.addr
open Go.ChangeShapes Go.WideShapes Go.ChangeAt Go.RowKit
open Go.Proofs.Ytffhfpdmfegcpac.base
set_option linter.unusedVariables false
set_option linter.unusedSimpArgs false

/-- a config that is right -/
def CfgOK (n s y b : Int) : Prop := 2 ≤ n ∧ n ≤ 8 ∧ 1 ≤ s ∧ s ≤ 4 ∧ ¬ s = 3 ∧ 1 ≤ y ∧ y ≤ 4 ∧ 1 ≤ b ∧ b ≤ 4
instance (n s y b : Int) : Decidable (CfgOK n s y b) := by unfold CfgOK; exact inferInstance
def cfgE (n s y b : Int) : Int := if CfgOK n s y b then 0 else 4
theorem cfgE_ok {n s y b : Int} (h : CfgOK n s y b) : cfgE n s y b = 0 := if_pos h
theorem cfgE_bad {n s y b : Int} (h : ¬ CfgOK n s y b) : cfgE n s y b = 4 := if_neg h

def spanB (k lo hi : Int) : Bool := decide (lo ≤ k ∧ k ≤ hi)
theorem spanB_iff {k lo hi : Int} : spanB k lo hi = true ↔ lo ≤ k ∧ k ≤ hi := by unfold spanB; exact decide_eq_true_iff
theorem spanB_yes {k lo hi : Int} (h : lo ≤ k ∧ k ≤ hi) : spanB k lo hi = true := spanB_iff.2 h
theorem spanB_no {k lo hi : Int} (h : k < lo ∨ hi < k) : spanB k lo hi = false := by
  cases e : spanB k lo hi with
  | false => rfl
  | true => rw [spanB_iff] at e; omega

set_option maxRecDepth 100000 in
theorem span_any (k lo hi : Int) (w : World) : Calls Try.prog 83 #[.int .i64 k, .int .i64 lo, .int .i64 hi] w fun e w' => e = .returned (.bool (spanB k lo hi)) ∧ w = w' := by
  by_cases h1 : lo ≤ k
  · by_cases h2 : k ≤ hi
    · go_enter Try.func83, Try.ntmps83
      go_wp2
      go_ret
      exact ⟨ret_bool (spanB_yes ⟨h1, h2⟩).symm, rfl⟩
    · go_enter Try.func83, Try.ntmps83
      go_wp2
      go_ret
      exact ⟨ret_bool (spanB_no (by omega)).symm, rfl⟩
  · go_enter Try.func83, Try.ntmps83
    go_wp2
    go_ret
    exact ⟨ret_bool (spanB_no (by omega)).symm, rfl⟩

set_option maxHeartbeats 1000000 in
set_option maxRecDepth 100000 in
theorem check_any (n s y b : Int) (w : World) : Calls Try.prog 62 #[.agg #[.int .i64 n, .int .i64 s, .int .i64 y, .int .i64 b]] w (Ret (.int .i64 (cfgE n s y b)) w) := by
  have key : cfgE n s y b = if (spanB n 2 8 && (spanB s 1 4 && (!(s == 3) && (spanB y 1 4 && spanB b 1 4)))) = true then 0 else 4 := by
    unfold cfgE
    congr 1
    simp only [Bool.and_eq_true, spanB_iff, Bool.not_eq_true', beq_eq_false_iff_ne, ne_eq, CfgOK, eq_iff_iff]
    omega
  rw [key]
  clear key
  cases h1 : spanB n 2 8
  case' true => cases h2 : spanB s 1 4
  case' true.true => cases h3 : (s == 3)
  case' true.true.false => cases h4 : spanB y 1 4
  case' true.true.false.true => cases h5 : spanB b 1 4
  all_goals
    go_enter Try.func62, Try.ntmps62
    go_wp2_with (go_at_call 83; refine (span_any _ _ _ _).mono ?_; rintro e w1 ⟨rfl, rfl⟩)
    go_ret
    exact ⟨rfl, by repeat (first | exact Below.refl _ _ | apply bs_later | apply bs_alloc | apply bs_drew | apply bs_drewN)⟩

/-- Line -/
def lineQ (a : Int) : Int := if 0 ≤ a ∧ a ≤ 63 then a / 4 else 0
def lineR (a : Int) : Int := if 0 ≤ a ∧ a ≤ 63 then a % 4 else 0
def lineE (a : Int) : Int := if 0 ≤ a ∧ a ≤ 63 then 0 else 4
set_option maxRecDepth 100000 in
theorem line_any (a : Int) (w : World) : Calls Try.prog 70 #[.int .i64 a] w fun e w' => e = .returned (.tuple #[.int .i64 (lineQ a), .int .i64 (lineR a), .int .i64 (lineE a)]) ∧ w = w' := by
  by_cases h : 0 ≤ a ∧ a ≤ 63
  · have e1 : lineQ a = a / 4 := if_pos h
    have e2 : lineR a = a % 4 := if_pos h
    have e3 : lineE a = 0 := if_pos h
    rw [e1, e2, e3]
    clear e1 e2 e3
    have h1 := spanB_yes h
    obtain ⟨h2, h3⟩ := h
    go_enter Try.func70, Try.ntmps70
    go_wp2_with (go_at_call 83; refine (span_any _ _ _ _).mono ?_; rintro e w1 ⟨rfl, rfl⟩)
    go_ret3
    exact ⟨rfl, rfl⟩
  · have e1 : lineQ a = 0 := if_neg h
    have e2 : lineR a = 0 := if_neg h
    have e3 : lineE a = 4 := if_neg h
    rw [e1, e2, e3]
    have h1 : spanB a 0 63 = false := spanB_no (by omega)
    clear e1 e2 e3 h
    go_enter Try.func70, Try.ntmps70
    go_wp2_with (go_at_call 83; refine (span_any _ _ _ _).mono ?_; rintro e w1 ⟨rfl, rfl⟩)
    go_ret3
    exact ⟨rfl, rfl⟩

end Go.Proofs.Ytffhfpdmfegcpac.addr
