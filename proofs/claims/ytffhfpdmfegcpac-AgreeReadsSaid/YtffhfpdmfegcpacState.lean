/- Contracts of package state: Name, Reads, Writes, Owns, Beside, Own. -/
import Derived.Test.YtffhfpdmfegcpacKnob
namespace Go.Proofs.Ytffhfpdmfegcpac.state
open Go.ChangeShapes Go.WideShapes Go.ChangeAt Go.RowKit
open Go.Proofs.Ytffhfpdmfegcpac.base
set_option linter.unusedVariables false
set_option linter.unusedSimpArgs false

def stB (s : Int) : Bool := decide (0 ≤ s ∧ s ≤ 4)
theorem stB_yes {s : Int} (h : 0 ≤ s ∧ s ≤ 4) : stB s = true := decide_eq_true h
theorem stB_no {s : Int} (h : ¬ (0 ≤ s ∧ s ≤ 4)) : stB s = false := decide_eq_false h

set_option maxRecDepth 100000 in
theorem is_any (s : Int) (w : World) : Calls Try.prog 44 #[.int .i64 s] w fun e w' => e = .returned (.bool (stB s)) ∧ w = w' := by
  by_cases h0 : 0 ≤ s
  · by_cases h1 : s ≤ 4
    · rw [stB_yes ⟨h0, h1⟩]
      go_enter Try.func44, Try.ntmps44
      go_wp2
      go_ret
      exact ⟨rfl, rfl⟩
    · rw [stB_no (by omega)]
      go_enter Try.func44, Try.ntmps44
      go_wp2
      go_ret
      exact ⟨rfl, rfl⟩
  · rw [stB_no (by omega)]
    go_enter Try.func44, Try.ntmps44
    go_wp2
    go_ret
    exact ⟨rfl, rfl⟩

theorem ret_str {a b : ByteArray} (h : a = b) : Ending.returned (.string a) = .returned (.string b) := by rw [h]

theorem name_0 (w : World) : Calls Try.prog 43 #[.int .i64 0] w fun e w' => e = .returned (.string ⟨#[73]⟩) ∧ w = w' := by
  have e := stB_yes (s := 0) (by omega)
  go_enter Try.func43, Try.ntmps43
  go_wp2_with (go_at_call 44; refine (is_any _ _).mono ?_; rintro e w1 ⟨rfl, rfl⟩)
  go_ret
  exact ⟨ret_str (by kernel_rfl), rfl⟩

theorem name_1 (w : World) : Calls Try.prog 43 #[.int .i64 1] w fun e w' => e = .returned (.string ⟨#[83]⟩) ∧ w = w' := by
  have e := stB_yes (s := 1) (by omega)
  go_enter Try.func43, Try.ntmps43
  go_wp2_with (go_at_call 44; refine (is_any _ _).mono ?_; rintro e w1 ⟨rfl, rfl⟩)
  go_ret
  exact ⟨ret_str (by kernel_rfl), rfl⟩

theorem name_2 (w : World) : Calls Try.prog 43 #[.int .i64 2] w fun e w' => e = .returned (.string ⟨#[69]⟩) ∧ w = w' := by
  have e := stB_yes (s := 2) (by omega)
  go_enter Try.func43, Try.ntmps43
  go_wp2_with (go_at_call 44; refine (is_any _ _).mono ?_; rintro e w1 ⟨rfl, rfl⟩)
  go_ret
  exact ⟨ret_str (by kernel_rfl), rfl⟩

theorem name_3 (w : World) : Calls Try.prog 43 #[.int .i64 3] w fun e w' => e = .returned (.string ⟨#[79]⟩) ∧ w = w' := by
  have e := stB_yes (s := 3) (by omega)
  go_enter Try.func43, Try.ntmps43
  go_wp2_with (go_at_call 44; refine (is_any _ _).mono ?_; rintro e w1 ⟨rfl, rfl⟩)
  go_ret
  exact ⟨ret_str (by kernel_rfl), rfl⟩

theorem name_4 (w : World) : Calls Try.prog 43 #[.int .i64 4] w fun e w' => e = .returned (.string ⟨#[77]⟩) ∧ w = w' := by
  have e := stB_yes (s := 4) (by omega)
  go_enter Try.func43, Try.ntmps43
  go_wp2_with (go_at_call 44; refine (is_any _ _).mono ?_; rintro e w1 ⟨rfl, rfl⟩)
  go_ret
  exact ⟨ret_str (by kernel_rfl), rfl⟩

/-- does a state's letter occur among those of these states? -/
def amongB (s : Int) (l : List Int) : Bool := decide (s ∈ l)
theorem amongB_out {s : Int} {l : List Int} (h : ¬ (0 ≤ s ∧ s ≤ 4)) (hl : ∀ x ∈ l, 0 ≤ x ∧ x ≤ 4) : amongB s l = false := decide_eq_false fun hm => h (hl s hm)
theorem byte_0 : (((⟨#[73]⟩ : ByteArray)[0]'(by decide)).toNat : Int) = 73 := by kernel_rfl
theorem byte_1 : (((⟨#[83]⟩ : ByteArray)[0]'(by decide)).toNat : Int) = 83 := by kernel_rfl
theorem byte_2 : (((⟨#[69]⟩ : ByteArray)[0]'(by decide)).toNat : Int) = 69 := by kernel_rfl
theorem byte_3 : (((⟨#[79]⟩ : ByteArray)[0]'(by decide)).toNat : Int) = 79 := by kernel_rfl
theorem byte_4 : (((⟨#[77]⟩ : ByteArray)[0]'(by decide)).toNat : Int) = 77 := by kernel_rfl
theorem call_seom_0 : ∀ w, (callFunc 122 #[.string ⟨#[83, 69, 79, 77]⟩, .int .u8 73]).run Try.prog w = .ok (Next.value (.int .i64 (-1))) w := fun w => by kernel_rfl
theorem call_seom_1 : ∀ w, (callFunc 122 #[.string ⟨#[83, 69, 79, 77]⟩, .int .u8 83]).run Try.prog w = .ok (Next.value (.int .i64 0)) w := fun w => by kernel_rfl
theorem call_seom_2 : ∀ w, (callFunc 122 #[.string ⟨#[83, 69, 79, 77]⟩, .int .u8 69]).run Try.prog w = .ok (Next.value (.int .i64 1)) w := fun w => by kernel_rfl
theorem call_seom_3 : ∀ w, (callFunc 122 #[.string ⟨#[83, 69, 79, 77]⟩, .int .u8 79]).run Try.prog w = .ok (Next.value (.int .i64 2)) w := fun w => by kernel_rfl
theorem call_seom_4 : ∀ w, (callFunc 122 #[.string ⟨#[83, 69, 79, 77]⟩, .int .u8 77]).run Try.prog w = .ok (Next.value (.int .i64 3)) w := fun w => by kernel_rfl

set_option maxHeartbeats 1000000 in
set_option maxRecDepth 100000 in
theorem among_seom (s : Int) (w : World) : Calls Try.prog 45 #[.int .i64 s, .string ⟨#[83, 69, 79, 77]⟩] w (Ret (.bool (amongB s [1, 2, 3, 4])) w) := by
  by_cases h : 0 ≤ s ∧ s ≤ 4
  · obtain rfl | rfl | rfl | rfl | rfl : s = 0 ∨ s = 1 ∨ s = 2 ∨ s = 3 ∨ s = 4 := by omega
    · have hb := byte_0
      have hx := call_seom_0
      have hs : stB 0 = true := rfl
      clear h
      go_enter Try.func45, Try.ntmps45
      go_wp2_with (first
        | (go_at_call 44; refine (is_any _ _).mono ?_; rintro e w1 ⟨rfl, rfl⟩)
        | (go_at_call 43; refine (name_0 _).mono ?_; rintro e w1 ⟨rfl, rfl⟩)
        | go_in)
      go_ret
      exact ⟨rfl, by repeat (first | exact Below.refl _ _ | apply bs_later | apply bs_alloc | apply bs_drew | apply bs_drewN)⟩
    · have hb := byte_1
      have hx := call_seom_1
      have hs : stB 1 = true := rfl
      clear h
      go_enter Try.func45, Try.ntmps45
      go_wp2_with (first
        | (go_at_call 44; refine (is_any _ _).mono ?_; rintro e w1 ⟨rfl, rfl⟩)
        | (go_at_call 43; refine (name_1 _).mono ?_; rintro e w1 ⟨rfl, rfl⟩)
        | go_in)
      go_ret
      exact ⟨rfl, by repeat (first | exact Below.refl _ _ | apply bs_later | apply bs_alloc | apply bs_drew | apply bs_drewN)⟩
    · have hb := byte_2
      have hx := call_seom_2
      have hs : stB 2 = true := rfl
      clear h
      go_enter Try.func45, Try.ntmps45
      go_wp2_with (first
        | (go_at_call 44; refine (is_any _ _).mono ?_; rintro e w1 ⟨rfl, rfl⟩)
        | (go_at_call 43; refine (name_2 _).mono ?_; rintro e w1 ⟨rfl, rfl⟩)
        | go_in)
      go_ret
      exact ⟨rfl, by repeat (first | exact Below.refl _ _ | apply bs_later | apply bs_alloc | apply bs_drew | apply bs_drewN)⟩
    · have hb := byte_3
      have hx := call_seom_3
      have hs : stB 3 = true := rfl
      clear h
      go_enter Try.func45, Try.ntmps45
      go_wp2_with (first
        | (go_at_call 44; refine (is_any _ _).mono ?_; rintro e w1 ⟨rfl, rfl⟩)
        | (go_at_call 43; refine (name_3 _).mono ?_; rintro e w1 ⟨rfl, rfl⟩)
        | go_in)
      go_ret
      exact ⟨rfl, by repeat (first | exact Below.refl _ _ | apply bs_later | apply bs_alloc | apply bs_drew | apply bs_drewN)⟩
    · have hb := byte_4
      have hx := call_seom_4
      have hs : stB 4 = true := rfl
      clear h
      go_enter Try.func45, Try.ntmps45
      go_wp2_with (first
        | (go_at_call 44; refine (is_any _ _).mono ?_; rintro e w1 ⟨rfl, rfl⟩)
        | (go_at_call 43; refine (name_4 _).mono ?_; rintro e w1 ⟨rfl, rfl⟩)
        | go_in)
      go_ret
      exact ⟨rfl, by repeat (first | exact Below.refl _ _ | apply bs_later | apply bs_alloc | apply bs_drew | apply bs_drewN)⟩
  · rw [amongB_out h (by decide)]
    have e := stB_no h
    clear h
    go_enter Try.func45, Try.ntmps45
    go_wp2_with (go_at_call 44; refine (is_any _ _).mono ?_; rintro e w1 ⟨rfl, rfl⟩)
    go_ret
    exact ⟨rfl, by repeat (first | exact Below.refl _ _ | apply bs_later | apply bs_alloc | apply bs_drew | apply bs_drewN)⟩
theorem call_em_0 : ∀ w, (callFunc 122 #[.string ⟨#[69, 77]⟩, .int .u8 73]).run Try.prog w = .ok (Next.value (.int .i64 (-1))) w := fun w => by kernel_rfl
theorem call_em_1 : ∀ w, (callFunc 122 #[.string ⟨#[69, 77]⟩, .int .u8 83]).run Try.prog w = .ok (Next.value (.int .i64 (-1))) w := fun w => by kernel_rfl
theorem call_em_2 : ∀ w, (callFunc 122 #[.string ⟨#[69, 77]⟩, .int .u8 69]).run Try.prog w = .ok (Next.value (.int .i64 0)) w := fun w => by kernel_rfl
theorem call_em_3 : ∀ w, (callFunc 122 #[.string ⟨#[69, 77]⟩, .int .u8 79]).run Try.prog w = .ok (Next.value (.int .i64 (-1))) w := fun w => by kernel_rfl
theorem call_em_4 : ∀ w, (callFunc 122 #[.string ⟨#[69, 77]⟩, .int .u8 77]).run Try.prog w = .ok (Next.value (.int .i64 1)) w := fun w => by kernel_rfl

set_option maxHeartbeats 1000000 in
set_option maxRecDepth 100000 in
theorem among_em (s : Int) (w : World) : Calls Try.prog 45 #[.int .i64 s, .string ⟨#[69, 77]⟩] w (Ret (.bool (amongB s [2, 4])) w) := by
  by_cases h : 0 ≤ s ∧ s ≤ 4
  · obtain rfl | rfl | rfl | rfl | rfl : s = 0 ∨ s = 1 ∨ s = 2 ∨ s = 3 ∨ s = 4 := by omega
    · have hb := byte_0
      have hx := call_em_0
      have hs : stB 0 = true := rfl
      clear h
      go_enter Try.func45, Try.ntmps45
      go_wp2_with (first
        | (go_at_call 44; refine (is_any _ _).mono ?_; rintro e w1 ⟨rfl, rfl⟩)
        | (go_at_call 43; refine (name_0 _).mono ?_; rintro e w1 ⟨rfl, rfl⟩)
        | go_in)
      go_ret
      exact ⟨rfl, by repeat (first | exact Below.refl _ _ | apply bs_later | apply bs_alloc | apply bs_drew | apply bs_drewN)⟩
    · have hb := byte_1
      have hx := call_em_1
      have hs : stB 1 = true := rfl
      clear h
      go_enter Try.func45, Try.ntmps45
      go_wp2_with (first
        | (go_at_call 44; refine (is_any _ _).mono ?_; rintro e w1 ⟨rfl, rfl⟩)
        | (go_at_call 43; refine (name_1 _).mono ?_; rintro e w1 ⟨rfl, rfl⟩)
        | go_in)
      go_ret
      exact ⟨rfl, by repeat (first | exact Below.refl _ _ | apply bs_later | apply bs_alloc | apply bs_drew | apply bs_drewN)⟩
    · have hb := byte_2
      have hx := call_em_2
      have hs : stB 2 = true := rfl
      clear h
      go_enter Try.func45, Try.ntmps45
      go_wp2_with (first
        | (go_at_call 44; refine (is_any _ _).mono ?_; rintro e w1 ⟨rfl, rfl⟩)
        | (go_at_call 43; refine (name_2 _).mono ?_; rintro e w1 ⟨rfl, rfl⟩)
        | go_in)
      go_ret
      exact ⟨rfl, by repeat (first | exact Below.refl _ _ | apply bs_later | apply bs_alloc | apply bs_drew | apply bs_drewN)⟩
    · have hb := byte_3
      have hx := call_em_3
      have hs : stB 3 = true := rfl
      clear h
      go_enter Try.func45, Try.ntmps45
      go_wp2_with (first
        | (go_at_call 44; refine (is_any _ _).mono ?_; rintro e w1 ⟨rfl, rfl⟩)
        | (go_at_call 43; refine (name_3 _).mono ?_; rintro e w1 ⟨rfl, rfl⟩)
        | go_in)
      go_ret
      exact ⟨rfl, by repeat (first | exact Below.refl _ _ | apply bs_later | apply bs_alloc | apply bs_drew | apply bs_drewN)⟩
    · have hb := byte_4
      have hx := call_em_4
      have hs : stB 4 = true := rfl
      clear h
      go_enter Try.func45, Try.ntmps45
      go_wp2_with (first
        | (go_at_call 44; refine (is_any _ _).mono ?_; rintro e w1 ⟨rfl, rfl⟩)
        | (go_at_call 43; refine (name_4 _).mono ?_; rintro e w1 ⟨rfl, rfl⟩)
        | go_in)
      go_ret
      exact ⟨rfl, by repeat (first | exact Below.refl _ _ | apply bs_later | apply bs_alloc | apply bs_drew | apply bs_drewN)⟩
  · rw [amongB_out h (by decide)]
    have e := stB_no h
    clear h
    go_enter Try.func45, Try.ntmps45
    go_wp2_with (go_at_call 44; refine (is_any _ _).mono ?_; rintro e w1 ⟨rfl, rfl⟩)
    go_ret
    exact ⟨rfl, by repeat (first | exact Below.refl _ _ | apply bs_later | apply bs_alloc | apply bs_drew | apply bs_drewN)⟩
theorem call_om_0 : ∀ w, (callFunc 122 #[.string ⟨#[79, 77]⟩, .int .u8 73]).run Try.prog w = .ok (Next.value (.int .i64 (-1))) w := fun w => by kernel_rfl
theorem call_om_1 : ∀ w, (callFunc 122 #[.string ⟨#[79, 77]⟩, .int .u8 83]).run Try.prog w = .ok (Next.value (.int .i64 (-1))) w := fun w => by kernel_rfl
theorem call_om_2 : ∀ w, (callFunc 122 #[.string ⟨#[79, 77]⟩, .int .u8 69]).run Try.prog w = .ok (Next.value (.int .i64 (-1))) w := fun w => by kernel_rfl
theorem call_om_3 : ∀ w, (callFunc 122 #[.string ⟨#[79, 77]⟩, .int .u8 79]).run Try.prog w = .ok (Next.value (.int .i64 0)) w := fun w => by kernel_rfl
theorem call_om_4 : ∀ w, (callFunc 122 #[.string ⟨#[79, 77]⟩, .int .u8 77]).run Try.prog w = .ok (Next.value (.int .i64 1)) w := fun w => by kernel_rfl

set_option maxHeartbeats 1000000 in
set_option maxRecDepth 100000 in
theorem among_om (s : Int) (w : World) : Calls Try.prog 45 #[.int .i64 s, .string ⟨#[79, 77]⟩] w (Ret (.bool (amongB s [3, 4])) w) := by
  by_cases h : 0 ≤ s ∧ s ≤ 4
  · obtain rfl | rfl | rfl | rfl | rfl : s = 0 ∨ s = 1 ∨ s = 2 ∨ s = 3 ∨ s = 4 := by omega
    · have hb := byte_0
      have hx := call_om_0
      have hs : stB 0 = true := rfl
      clear h
      go_enter Try.func45, Try.ntmps45
      go_wp2_with (first
        | (go_at_call 44; refine (is_any _ _).mono ?_; rintro e w1 ⟨rfl, rfl⟩)
        | (go_at_call 43; refine (name_0 _).mono ?_; rintro e w1 ⟨rfl, rfl⟩)
        | go_in)
      go_ret
      exact ⟨rfl, by repeat (first | exact Below.refl _ _ | apply bs_later | apply bs_alloc | apply bs_drew | apply bs_drewN)⟩
    · have hb := byte_1
      have hx := call_om_1
      have hs : stB 1 = true := rfl
      clear h
      go_enter Try.func45, Try.ntmps45
      go_wp2_with (first
        | (go_at_call 44; refine (is_any _ _).mono ?_; rintro e w1 ⟨rfl, rfl⟩)
        | (go_at_call 43; refine (name_1 _).mono ?_; rintro e w1 ⟨rfl, rfl⟩)
        | go_in)
      go_ret
      exact ⟨rfl, by repeat (first | exact Below.refl _ _ | apply bs_later | apply bs_alloc | apply bs_drew | apply bs_drewN)⟩
    · have hb := byte_2
      have hx := call_om_2
      have hs : stB 2 = true := rfl
      clear h
      go_enter Try.func45, Try.ntmps45
      go_wp2_with (first
        | (go_at_call 44; refine (is_any _ _).mono ?_; rintro e w1 ⟨rfl, rfl⟩)
        | (go_at_call 43; refine (name_2 _).mono ?_; rintro e w1 ⟨rfl, rfl⟩)
        | go_in)
      go_ret
      exact ⟨rfl, by repeat (first | exact Below.refl _ _ | apply bs_later | apply bs_alloc | apply bs_drew | apply bs_drewN)⟩
    · have hb := byte_3
      have hx := call_om_3
      have hs : stB 3 = true := rfl
      clear h
      go_enter Try.func45, Try.ntmps45
      go_wp2_with (first
        | (go_at_call 44; refine (is_any _ _).mono ?_; rintro e w1 ⟨rfl, rfl⟩)
        | (go_at_call 43; refine (name_3 _).mono ?_; rintro e w1 ⟨rfl, rfl⟩)
        | go_in)
      go_ret
      exact ⟨rfl, by repeat (first | exact Below.refl _ _ | apply bs_later | apply bs_alloc | apply bs_drew | apply bs_drewN)⟩
    · have hb := byte_4
      have hx := call_om_4
      have hs : stB 4 = true := rfl
      clear h
      go_enter Try.func45, Try.ntmps45
      go_wp2_with (first
        | (go_at_call 44; refine (is_any _ _).mono ?_; rintro e w1 ⟨rfl, rfl⟩)
        | (go_at_call 43; refine (name_4 _).mono ?_; rintro e w1 ⟨rfl, rfl⟩)
        | go_in)
      go_ret
      exact ⟨rfl, by repeat (first | exact Below.refl _ _ | apply bs_later | apply bs_alloc | apply bs_drew | apply bs_drewN)⟩
  · rw [amongB_out h (by decide)]
    have e := stB_no h
    clear h
    go_enter Try.func45, Try.ntmps45
    go_wp2_with (go_at_call 44; refine (is_any _ _).mono ?_; rintro e w1 ⟨rfl, rfl⟩)
    go_ret
    exact ⟨rfl, by repeat (first | exact Below.refl _ _ | apply bs_later | apply bs_alloc | apply bs_drew | apply bs_drewN)⟩
theorem call_iso_0 : ∀ w, (callFunc 122 #[.string ⟨#[73, 83, 79]⟩, .int .u8 73]).run Try.prog w = .ok (Next.value (.int .i64 0)) w := fun w => by kernel_rfl
theorem call_iso_1 : ∀ w, (callFunc 122 #[.string ⟨#[73, 83, 79]⟩, .int .u8 83]).run Try.prog w = .ok (Next.value (.int .i64 1)) w := fun w => by kernel_rfl
theorem call_iso_2 : ∀ w, (callFunc 122 #[.string ⟨#[73, 83, 79]⟩, .int .u8 69]).run Try.prog w = .ok (Next.value (.int .i64 (-1))) w := fun w => by kernel_rfl
theorem call_iso_3 : ∀ w, (callFunc 122 #[.string ⟨#[73, 83, 79]⟩, .int .u8 79]).run Try.prog w = .ok (Next.value (.int .i64 2)) w := fun w => by kernel_rfl
theorem call_iso_4 : ∀ w, (callFunc 122 #[.string ⟨#[73, 83, 79]⟩, .int .u8 77]).run Try.prog w = .ok (Next.value (.int .i64 (-1))) w := fun w => by kernel_rfl

set_option maxHeartbeats 1000000 in
set_option maxRecDepth 100000 in
theorem among_iso (s : Int) (w : World) : Calls Try.prog 45 #[.int .i64 s, .string ⟨#[73, 83, 79]⟩] w (Ret (.bool (amongB s [0, 1, 3])) w) := by
  by_cases h : 0 ≤ s ∧ s ≤ 4
  · obtain rfl | rfl | rfl | rfl | rfl : s = 0 ∨ s = 1 ∨ s = 2 ∨ s = 3 ∨ s = 4 := by omega
    · have hb := byte_0
      have hx := call_iso_0
      have hs : stB 0 = true := rfl
      clear h
      go_enter Try.func45, Try.ntmps45
      go_wp2_with (first
        | (go_at_call 44; refine (is_any _ _).mono ?_; rintro e w1 ⟨rfl, rfl⟩)
        | (go_at_call 43; refine (name_0 _).mono ?_; rintro e w1 ⟨rfl, rfl⟩)
        | go_in)
      go_ret
      exact ⟨rfl, by repeat (first | exact Below.refl _ _ | apply bs_later | apply bs_alloc | apply bs_drew | apply bs_drewN)⟩
    · have hb := byte_1
      have hx := call_iso_1
      have hs : stB 1 = true := rfl
      clear h
      go_enter Try.func45, Try.ntmps45
      go_wp2_with (first
        | (go_at_call 44; refine (is_any _ _).mono ?_; rintro e w1 ⟨rfl, rfl⟩)
        | (go_at_call 43; refine (name_1 _).mono ?_; rintro e w1 ⟨rfl, rfl⟩)
        | go_in)
      go_ret
      exact ⟨rfl, by repeat (first | exact Below.refl _ _ | apply bs_later | apply bs_alloc | apply bs_drew | apply bs_drewN)⟩
    · have hb := byte_2
      have hx := call_iso_2
      have hs : stB 2 = true := rfl
      clear h
      go_enter Try.func45, Try.ntmps45
      go_wp2_with (first
        | (go_at_call 44; refine (is_any _ _).mono ?_; rintro e w1 ⟨rfl, rfl⟩)
        | (go_at_call 43; refine (name_2 _).mono ?_; rintro e w1 ⟨rfl, rfl⟩)
        | go_in)
      go_ret
      exact ⟨rfl, by repeat (first | exact Below.refl _ _ | apply bs_later | apply bs_alloc | apply bs_drew | apply bs_drewN)⟩
    · have hb := byte_3
      have hx := call_iso_3
      have hs : stB 3 = true := rfl
      clear h
      go_enter Try.func45, Try.ntmps45
      go_wp2_with (first
        | (go_at_call 44; refine (is_any _ _).mono ?_; rintro e w1 ⟨rfl, rfl⟩)
        | (go_at_call 43; refine (name_3 _).mono ?_; rintro e w1 ⟨rfl, rfl⟩)
        | go_in)
      go_ret
      exact ⟨rfl, by repeat (first | exact Below.refl _ _ | apply bs_later | apply bs_alloc | apply bs_drew | apply bs_drewN)⟩
    · have hb := byte_4
      have hx := call_iso_4
      have hs : stB 4 = true := rfl
      clear h
      go_enter Try.func45, Try.ntmps45
      go_wp2_with (first
        | (go_at_call 44; refine (is_any _ _).mono ?_; rintro e w1 ⟨rfl, rfl⟩)
        | (go_at_call 43; refine (name_4 _).mono ?_; rintro e w1 ⟨rfl, rfl⟩)
        | go_in)
      go_ret
      exact ⟨rfl, by repeat (first | exact Below.refl _ _ | apply bs_later | apply bs_alloc | apply bs_drew | apply bs_drewN)⟩
  · rw [amongB_out h (by decide)]
    have e := stB_no h
    clear h
    go_enter Try.func45, Try.ntmps45
    go_wp2_with (go_at_call 44; refine (is_any _ _).mono ?_; rintro e w1 ⟨rfl, rfl⟩)
    go_ret
    exact ⟨rfl, by repeat (first | exact Below.refl _ _ | apply bs_later | apply bs_alloc | apply bs_drew | apply bs_drewN)⟩
theorem call_is_0 : ∀ w, (callFunc 122 #[.string ⟨#[73, 83]⟩, .int .u8 73]).run Try.prog w = .ok (Next.value (.int .i64 0)) w := fun w => by kernel_rfl
theorem call_is_1 : ∀ w, (callFunc 122 #[.string ⟨#[73, 83]⟩, .int .u8 83]).run Try.prog w = .ok (Next.value (.int .i64 1)) w := fun w => by kernel_rfl
theorem call_is_2 : ∀ w, (callFunc 122 #[.string ⟨#[73, 83]⟩, .int .u8 69]).run Try.prog w = .ok (Next.value (.int .i64 (-1))) w := fun w => by kernel_rfl
theorem call_is_3 : ∀ w, (callFunc 122 #[.string ⟨#[73, 83]⟩, .int .u8 79]).run Try.prog w = .ok (Next.value (.int .i64 (-1))) w := fun w => by kernel_rfl
theorem call_is_4 : ∀ w, (callFunc 122 #[.string ⟨#[73, 83]⟩, .int .u8 77]).run Try.prog w = .ok (Next.value (.int .i64 (-1))) w := fun w => by kernel_rfl

set_option maxHeartbeats 1000000 in
set_option maxRecDepth 100000 in
theorem among_is (s : Int) (w : World) : Calls Try.prog 45 #[.int .i64 s, .string ⟨#[73, 83]⟩] w (Ret (.bool (amongB s [0, 1])) w) := by
  by_cases h : 0 ≤ s ∧ s ≤ 4
  · obtain rfl | rfl | rfl | rfl | rfl : s = 0 ∨ s = 1 ∨ s = 2 ∨ s = 3 ∨ s = 4 := by omega
    · have hb := byte_0
      have hx := call_is_0
      have hs : stB 0 = true := rfl
      clear h
      go_enter Try.func45, Try.ntmps45
      go_wp2_with (first
        | (go_at_call 44; refine (is_any _ _).mono ?_; rintro e w1 ⟨rfl, rfl⟩)
        | (go_at_call 43; refine (name_0 _).mono ?_; rintro e w1 ⟨rfl, rfl⟩)
        | go_in)
      go_ret
      exact ⟨rfl, by repeat (first | exact Below.refl _ _ | apply bs_later | apply bs_alloc | apply bs_drew | apply bs_drewN)⟩
    · have hb := byte_1
      have hx := call_is_1
      have hs : stB 1 = true := rfl
      clear h
      go_enter Try.func45, Try.ntmps45
      go_wp2_with (first
        | (go_at_call 44; refine (is_any _ _).mono ?_; rintro e w1 ⟨rfl, rfl⟩)
        | (go_at_call 43; refine (name_1 _).mono ?_; rintro e w1 ⟨rfl, rfl⟩)
        | go_in)
      go_ret
      exact ⟨rfl, by repeat (first | exact Below.refl _ _ | apply bs_later | apply bs_alloc | apply bs_drew | apply bs_drewN)⟩
    · have hb := byte_2
      have hx := call_is_2
      have hs : stB 2 = true := rfl
      clear h
      go_enter Try.func45, Try.ntmps45
      go_wp2_with (first
        | (go_at_call 44; refine (is_any _ _).mono ?_; rintro e w1 ⟨rfl, rfl⟩)
        | (go_at_call 43; refine (name_2 _).mono ?_; rintro e w1 ⟨rfl, rfl⟩)
        | go_in)
      go_ret
      exact ⟨rfl, by repeat (first | exact Below.refl _ _ | apply bs_later | apply bs_alloc | apply bs_drew | apply bs_drewN)⟩
    · have hb := byte_3
      have hx := call_is_3
      have hs : stB 3 = true := rfl
      clear h
      go_enter Try.func45, Try.ntmps45
      go_wp2_with (first
        | (go_at_call 44; refine (is_any _ _).mono ?_; rintro e w1 ⟨rfl, rfl⟩)
        | (go_at_call 43; refine (name_3 _).mono ?_; rintro e w1 ⟨rfl, rfl⟩)
        | go_in)
      go_ret
      exact ⟨rfl, by repeat (first | exact Below.refl _ _ | apply bs_later | apply bs_alloc | apply bs_drew | apply bs_drewN)⟩
    · have hb := byte_4
      have hx := call_is_4
      have hs : stB 4 = true := rfl
      clear h
      go_enter Try.func45, Try.ntmps45
      go_wp2_with (first
        | (go_at_call 44; refine (is_any _ _).mono ?_; rintro e w1 ⟨rfl, rfl⟩)
        | (go_at_call 43; refine (name_4 _).mono ?_; rintro e w1 ⟨rfl, rfl⟩)
        | go_in)
      go_ret
      exact ⟨rfl, by repeat (first | exact Below.refl _ _ | apply bs_later | apply bs_alloc | apply bs_drew | apply bs_drewN)⟩
  · rw [amongB_out h (by decide)]
    have e := stB_no h
    clear h
    go_enter Try.func45, Try.ntmps45
    go_wp2_with (go_at_call 44; refine (is_any _ _).mono ?_; rintro e w1 ⟨rfl, rfl⟩)
    go_ret
    exact ⟨rfl, by repeat (first | exact Below.refl _ _ | apply bs_later | apply bs_alloc | apply bs_drew | apply bs_drewN)⟩

set_option maxRecDepth 100000 in
theorem reads_any (s : Int) (w : World) : Calls Try.prog 47 #[.int .i64 s] w (Ret (.bool (amongB s [1, 2, 3, 4])) w) := by
  go_enter Try.func47, Try.ntmps47
  go_wp2_with (go_at_call 45; refine (among_seom _ _).mono ?_; rintro e w1 ⟨rfl, hb1⟩; obtain ⟨l1, d1, rfl⟩ := later_of hb1; clear hb1)
  go_ret
  exact ⟨rfl, by repeat (first | exact Below.refl _ _ | apply bs_later | apply bs_alloc | apply bs_drew | apply bs_drewN)⟩

set_option maxRecDepth 100000 in
theorem writes_any (s : Int) (w : World) : Calls Try.prog 22 #[.int .i64 s] w (Ret (.bool (amongB s [2, 4])) w) := by
  go_enter Try.func22, Try.ntmps22
  go_wp2_with (go_at_call 45; refine (among_em _ _).mono ?_; rintro e w1 ⟨rfl, hb1⟩; obtain ⟨l1, d1, rfl⟩ := later_of hb1; clear hb1)
  go_ret
  exact ⟨rfl, by repeat (first | exact Below.refl _ _ | apply bs_later | apply bs_alloc | apply bs_drew | apply bs_drewN)⟩

set_option maxRecDepth 100000 in
theorem owns_any (s : Int) (w : World) : Calls Try.prog 54 #[.int .i64 s] w (Ret (.bool (amongB s [3, 4])) w) := by
  go_enter Try.func54, Try.ntmps54
  go_wp2_with (go_at_call 45; refine (among_om _ _).mono ?_; rintro e w1 ⟨rfl, hb1⟩; obtain ⟨l1, d1, rfl⟩ := later_of hb1; clear hb1)
  go_ret
  exact ⟨rfl, by repeat (first | exact Below.refl _ _ | apply bs_later | apply bs_alloc | apply bs_drew | apply bs_drewN)⟩

/-- may two states be beside each other? -/
def besideB (s t : Int) : Bool := stB s && stB t && (if s = 0 then true else if s = 1 then amongB t [0, 1, 3] else if s = 3 then amongB t [0, 1] else (t == 0))

set_option maxHeartbeats 1000000 in
set_option maxRecDepth 100000 in
theorem beside_any (s t : Int) (w : World) : Calls Try.prog 13 #[.int .i64 s, .int .i64 t] w (Ret (.bool (besideB s t)) w) := by
  cases hs : stB s with
  | false =>
    have e : besideB s t = false := by unfold besideB; rw [hs]; rfl
    rw [e]
    clear e
    go_enter Try.func13, Try.ntmps13
    go_wp2_with (go_at_call 44; refine (is_any _ _).mono ?_; rintro e w1 ⟨rfl, rfl⟩)
    go_ret
    exact ⟨rfl, by repeat (first | exact Below.refl _ _ | apply bs_later | apply bs_alloc | apply bs_drew | apply bs_drewN)⟩
  | true =>
    cases ht : stB t with
    | false =>
      have e : besideB s t = false := by unfold besideB; rw [hs, ht]; rfl
      rw [e]
      clear e
      go_enter Try.func13, Try.ntmps13
      go_wp2_with (go_at_call 44; refine (is_any _ _).mono ?_; rintro e w1 ⟨rfl, rfl⟩)
      go_ret
      exact ⟨rfl, by repeat (first | exact Below.refl _ _ | apply bs_later | apply bs_alloc | apply bs_drew | apply bs_drewN)⟩
    | true =>
      have h : 0 ≤ s ∧ s ≤ 4 := of_decide_eq_true hs
      have e : besideB s t = (if s = 0 then true else if s = 1 then amongB t [0, 1, 3] else if s = 3 then amongB t [0, 1] else (t == 0)) := by unfold besideB; rw [hs, ht]; rfl
      rw [e]
      clear e
      obtain rfl | rfl | rfl | rfl | rfl : s = 0 ∨ s = 1 ∨ s = 2 ∨ s = 3 ∨ s = 4 := by omega
      all_goals
        clear h hs
        have hs : ∀ k : Int, 0 ≤ k → k ≤ 4 → stB k = true := fun k h0 h4 => stB_yes ⟨h0, h4⟩
        have h0 : stB 0 = true := rfl
        have h1 : stB 1 = true := rfl
        have h2 : stB 2 = true := rfl
        have h3 : stB 3 = true := rfl
        have h4 : stB 4 = true := rfl
        clear hs
        go_enter Try.func13, Try.ntmps13
        go_wp2_with (first
          | (go_at_call 44; refine (is_any _ _).mono ?_; rintro e w1 ⟨rfl, rfl⟩)
          | (go_at_call 45; (first | (with_reducible refine (among_iso _ _).mono ?_) | (with_reducible refine (among_is _ _).mono ?_)); rintro e w1 ⟨rfl, hb1⟩; obtain ⟨l1, d1, rfl⟩ := later_of hb1; clear hb1))
        go_ret
        exact ⟨by first | rfl | (simp; done), by repeat (first | exact Below.refl _ _ | apply bs_later | apply bs_alloc | apply bs_drew | apply bs_drewN)⟩

def kindB (k : Int) : Bool := decide (1 ≤ k ∧ k ≤ 4)
def ownE (s k : Int) : Int := if stB s = true ∧ kindB k = true then 0 else 1
def ownV (s k : Int) (alone : Bool) : Int := if stB s = true ∧ kindB k = true then (if k = 4 then 0 else if ¬ k = 1 then 4 else if amongB s [1, 2, 3, 4] = true then s else if alone = true then 2 else 1) else 0

set_option maxHeartbeats 1000000 in
set_option maxRecDepth 100000 in
theorem check_any (s k : Int) (w : World) : Calls Try.prog 46 #[.int .i64 s, .int .i64 k] w fun e w' => e = .returned (.int .i64 (ownE s k)) ∧ w = w' := by
  cases hs : stB s with
  | false =>
    rw [show ownE s k = 1 from if_neg (by rw [hs]; simp)]
    go_enter Try.func46, Try.ntmps46
    go_wp2_with (go_at_call 44; refine (is_any _ _).mono ?_; rintro e w1 ⟨rfl, rfl⟩)
    go_ret
    exact ⟨rfl, rfl⟩
  | true =>
    by_cases h1 : k < 1
    · rw [show ownE s k = 1 from if_neg (by unfold kindB; simp; omega)]
      go_enter Try.func46, Try.ntmps46
      go_wp2_with (go_at_call 44; refine (is_any _ _).mono ?_; rintro e w1 ⟨rfl, rfl⟩)
      go_ret
      exact ⟨rfl, rfl⟩
    · by_cases h2 : 4 < k
      · rw [show ownE s k = 1 from if_neg (by unfold kindB; simp; omega)]
        go_enter Try.func46, Try.ntmps46
        go_wp2_with (go_at_call 44; refine (is_any _ _).mono ?_; rintro e w1 ⟨rfl, rfl⟩)
        go_ret
        exact ⟨rfl, rfl⟩
      · rw [show ownE s k = 0 from if_pos ⟨hs, by unfold kindB; simp; omega⟩]
        go_enter Try.func46, Try.ntmps46
        go_wp2_with (go_at_call 44; refine (is_any _ _).mono ?_; rintro e w1 ⟨rfl, rfl⟩)
        go_ret
        exact ⟨rfl, rfl⟩

set_option maxHeartbeats 2000000 in
set_option maxRecDepth 100000 in
theorem own_any (s k : Int) (alone : Bool) (w : World) : Calls Try.prog 14 #[.int .i64 s, .int .i64 k, .bool alone] w (Ret (.tuple #[.int .i64 (ownV s k alone), .int .i64 (ownE s k)]) w) := by
  by_cases h : stB s = true ∧ kindB k = true
  · have e1 : ownE s k = 0 := if_pos h
    have e2 : ownV s k alone = (if k = 4 then 0 else if ¬ k = 1 then 4 else if amongB s [1, 2, 3, 4] = true then s else if alone = true then 2 else 1) := if_pos h
    have hk : 1 ≤ k ∧ k ≤ 4 := of_decide_eq_true h.2
    rw [e2]
    clear e2 h
    cases hr : amongB s [1, 2, 3, 4] <;> cases alone
    all_goals
      obtain rfl | rfl | rfl | rfl : k = 1 ∨ k = 2 ∨ k = 3 ∨ k = 4 := by omega
      all_goals
        rw [e1]
        go_enter Try.func14, Try.ntmps14
        go_wp2_with (first
          | (go_at_call 46; refine (check_any _ _ _).mono ?_; rintro e w1 ⟨rfl, rfl⟩)
          | (go_at_call 47; refine (reads_any _ _).mono ?_; rintro e w1 ⟨rfl, hb1⟩; obtain ⟨l1, d1, rfl⟩ := later_of hb1; clear hb1))
        go_ret2
        exact ⟨rfl, by repeat (first | exact Below.refl _ _ | apply bs_later | apply bs_alloc | apply bs_drew | apply bs_drewN)⟩
  · have e1 : ownE s k = 1 := if_neg h
    have e2 : ownV s k alone = 0 := if_neg h
    rw [e2]
    clear e2 h
    rw [e1]
    go_enter Try.func14, Try.ntmps14
    go_wp2_with (go_at_call 46; refine (check_any _ _ _).mono ?_; rintro e w1 ⟨rfl, rfl⟩)
    go_ret2
    exact ⟨rfl, by repeat (first | exact Below.refl _ _ | apply bs_later | apply bs_alloc | apply bs_drew | apply bs_drewN)⟩
end Go.Proofs.Ytffhfpdmfegcpac.state
