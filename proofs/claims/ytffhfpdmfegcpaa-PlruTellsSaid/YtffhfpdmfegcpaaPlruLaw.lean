/- The contract of ringdoveref.TreeFault; what the reference answers is what the program answers. -/
import Derived.Test.YtffhfpdmfegcpaaVictimOf
import Derived.Test.YtffhfpdmfegcpaaPlru
import Derived.Test.YtffhfpdmfegcpaaSame
import Derived.Deep.RegionWith
namespace Go.Proofs.Ytffhfpdmfegcpaa.plruTells
open Go.ChangeShapes Go.WideShapes Go.ChangeAt Go.RowKit
open Go.ChangeMaps (open_string shut_string)
open Go.Proofs.Ytffhfpdmfegcpaa.base Go.Proofs.Ytffhfpdmfegcpaa.knob Go.Proofs.Ytffhfpdmfegcpaa.flat Go.Proofs.Ytffhfpdmfegcpaa.plru Go.Proofs.Ytffhfpdmfegcpaa.road
set_option linter.unusedVariables false
set_option linter.unusedSimpArgs false

set_option maxRecDepth 100000 in
theorem counts_any (i n : Int) (w : World) (h0 : 0 ≤ i) (h9 : i ≤ 9) : Calls Try.prog 57 #[.int .i64 i, .int .i64 n] w fun e w' => e = .returned (.bool (decide (i + 1 < n))) ∧ w = w' := by
  go_enter Try.func57, Try.ntmps57
  go_wp2
  go_ret
  exact ⟨rfl, rfl⟩

set_option maxHeartbeats 4000000 in
set_option maxRecDepth 100000 in
theorem fault_any (a b c : Bool) (n : Int) (w : World) : Calls Try.prog 34 #[.agg #[.bool a, .bool b, .bool c], .int .i64 n] w (Ret (.int .i64 (plruE a b c n)) w) := by
  by_cases h1 : n < 1
  · rw [show plruE a b c n = 4 from if_pos (.inl h1)]
    go_enter Try.func34, Try.ntmps34
    go_wp2
    go_ret
    exact ⟨rfl, by repeat (first | exact Below.refl _ _ | apply bs_later | apply bs_alloc | apply bs_drew | apply bs_drewN)⟩
  · by_cases h2 : 4 < n
    · rw [show plruE a b c n = 4 from if_pos (.inr h2)]
      go_enter Try.func34, Try.ntmps34
      go_wp2
      go_ret
      exact ⟨rfl, by repeat (first | exact Below.refl _ _ | apply bs_later | apply bs_alloc | apply bs_drew | apply bs_drewN)⟩
    · have i0 : ∀ w, (Instr.index 89 (.agg #[.bool a, .bool b, .bool c]) (.int .i64 0)).run Try.prog w = .ok (.bool a) w := fun _ => by kernel_rfl
      have i1 : ∀ w, (Instr.index 89 (.agg #[.bool a, .bool b, .bool c]) (.int .i64 1)).run Try.prog w = .ok (.bool b) w := fun _ => by kernel_rfl
      have i2 : ∀ w, (Instr.index 89 (.agg #[.bool a, .bool b, .bool c]) (.int .i64 2)).run Try.prog w = .ok (.bool c) w := fun _ => by kernel_rfl
      obtain rfl | rfl | rfl | rfl : n = 1 ∨ n = 2 ∨ n = 3 ∨ n = 4 := by omega
      all_goals
        clear h1 h2
        cases a <;> cases b <;> cases c
        all_goals
          go_enter Try.func34, Try.ntmps34
          go_wp2_with (go_at_call 56; refine (bits_any _ _ _ _).mono ?_; rintro e w1 ⟨rfl, hb1⟩; obtain ⟨l1, d1, rfl⟩ := later_of hb1; clear hb1)
          refine wp_loop_rounds 4 ?_
          repeat any_goals (rw [rounds_succ]; go_wp2_with (go_at_call 57; refine (counts_any _ _ _ (by omega) (by omega)).mono ?_; rintro e w1 ⟨rfl, rfl⟩))
          go_ret
          exact ⟨rfl, by repeat (first | exact Below.refl _ _ | apply bs_later | apply bs_alloc | apply bs_drew | apply bs_drewN)⟩

theorem good_n {a b c : Bool} {n : Int} (h : plruE a b c n = 0) : n = 1 ∨ n = 2 ∨ n = 3 ∨ n = 4 := by
  by_cases h1 : n < 1 ∨ 4 < n
  · rw [show plruE a b c n = 4 from if_pos h1] at h; omega
  · omega
theorem scan_is {a b c : Bool} {N : Nat} (h : plruE a b c N = 0) : scan a b c N N 0 = victimV a b c N := by
  have := good_n h
  obtain rfl | rfl | rfl | rfl : N = 1 ∨ N = 2 ∨ N = 3 ∨ N = 4 := by omega
  all_goals
    cases a <;> cases b <;> cases c
    all_goals first | exact absurd h (by decide) | decide
theorem touched_is {a b c : Bool} {n k : Int} (h : plruE a b c n = 0) (h0 : 0 ≤ k) (h1 : k < n) : bitE (roadF n k) 0 a = touchA a b c n k ∧ bitE (roadF n k) 1 b = touchB a b c n k ∧ bitE (roadF n k) 2 c = touchC a b c n k := by
  have hn := good_n h
  have hc : (n = 1 ∧ k = 0) ∨ (n = 2 ∧ k = 0) ∨ (n = 2 ∧ k = 1) ∨ (n = 3 ∧ k = 0) ∨ (n = 3 ∧ k = 1) ∨ (n = 3 ∧ k = 2) ∨ (n = 4 ∧ k = 0) ∨ (n = 4 ∧ k = 1) ∨ (n = 4 ∧ k = 2) ∨ (n = 4 ∧ k = 3) := by omega
  clear hn h0 h1
  rcases hc with ⟨rfl, rfl⟩ | ⟨rfl, rfl⟩ | ⟨rfl, rfl⟩ | ⟨rfl, rfl⟩ | ⟨rfl, rfl⟩ | ⟨rfl, rfl⟩ | ⟨rfl, rfl⟩ | ⟨rfl, rfl⟩ | ⟨rfl, rfl⟩ | ⟨rfl, rfl⟩
  all_goals
    cases a <;> cases b <;> cases c
    all_goals first | exact absurd h (by decide) | decide

theorem run_eq_tree (w : World) (a b c a' b' c' : Bool) :
    (Op.equalIn 10000 54 (.agg #[.bool a, .bool b, .bool c]) (.agg #[.bool a', .bool b', .bool c'])).run Try.prog w = .ok (same.eqv [.bool a, .bool b, .bool c] [.bool a', .bool b', .bool c']) w :=
  same.run_equalIn_flat w 3 _ [.bool, .bool, .bool] (by kernel_rfl) (by kernel_rfl) (by kernel_rfl) (by omega) (.inl ⟨_, Try.underlying54⟩)
    [.bool a, .bool b, .bool c] [.bool a', .bool b', .bool c'] ⟨⟨_, rfl⟩, ⟨_, rfl⟩, ⟨_, rfl⟩, trivial⟩ ⟨⟨_, rfl⟩, ⟨_, rfl⟩, ⟨_, rfl⟩, trivial⟩
end Go.Proofs.Ytffhfpdmfegcpaa.plruTells
