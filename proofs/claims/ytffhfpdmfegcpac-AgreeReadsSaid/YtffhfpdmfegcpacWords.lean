/- Contracts of package words: Load, Swap, Store at any line, place and word. -/
import Derived.Test.YtffhfpdmfegcpacKnob
import Derived.Test.YtffhfpdmfegcpacSame
namespace Go.Proofs.Ytffhfpdmfegcpac.words
open Go.ChangeShapes Go.WideShapes Go.ChangeAt Go.RowKit
set_option linter.unusedVariables false
set_option linter.unusedSimpArgs false
open Go.Proofs.Ytffhfpdmfegcpac.base Go.Proofs.Ytffhfpdmfegcpac.flat Go.Proofs.Ytffhfpdmfegcpac.same
set_option linter.unusedVariables false

/-- the word at place k of a line -/
def lget (a b c d k : Int) : Int := if k = 0 then a else if k = 1 then b else if k = 2 then c else d
/-- what place i holds when v was stored at place k -/
def lset (i k v x : Int) : Int := if k = i then v else x

theorem wf_lset {i k v x : Int} (hv : (Lit.int .u64 v).wf = true) (hx : (Lit.int .u64 x).wf = true) : (Lit.int .u64 (lset i k v x)).wf = true := by
  unfold lset; split <;> assumption
theorem wf_zero : (Lit.int .u64 0).wf = true := by decide

/-- '==' at two lines -/
theorem run_eq_line (w : World) (a b c d a' b' c' d' : Int) (h1 : (Lit.int .u64 a).wf = true) (h2 : (Lit.int .u64 b).wf = true) (h3 : (Lit.int .u64 c).wf = true) (h4 : (Lit.int .u64 d).wf = true)
    (g1 : (Lit.int .u64 a').wf = true) (g2 : (Lit.int .u64 b').wf = true) (g3 : (Lit.int .u64 c').wf = true) (g4 : (Lit.int .u64 d').wf = true) :
    (Op.equalIn 10000 24 (.agg #[.int .u64 a, .int .u64 b, .int .u64 c, .int .u64 d]) (.agg #[.int .u64 a', .int .u64 b', .int .u64 c', .int .u64 d'])).run Try.prog w
      = .ok (eqv [.int .u64 a, .int .u64 b, .int .u64 c, .int .u64 d] [.int .u64 a', .int .u64 b', .int .u64 c', .int .u64 d']) w :=
  run_equalIn_flat w 3 _ [.int .u64, .int .u64, .int .u64, .int .u64] (by kernel_rfl) (by kernel_rfl) (by kernel_rfl) (by omega) (.inr ⟨_, _, Try.underlying24⟩)
    [.int .u64 a, .int .u64 b, .int .u64 c, .int .u64 d] [.int .u64 a', .int .u64 b', .int .u64 c', .int .u64 d'] ⟨⟨_, rfl, h1⟩, ⟨_, rfl, h2⟩, ⟨_, rfl, h3⟩, ⟨_, rfl, h4⟩, trivial⟩ ⟨⟨_, rfl, g1⟩, ⟨_, rfl, g2⟩, ⟨_, rfl, g3⟩, ⟨_, rfl, g4⟩, trivial⟩

theorem run_same_line (w : World) (a b c d : Int) (h1 : (Lit.int .u64 a).wf = true) (h2 : (Lit.int .u64 b).wf = true) (h3 : (Lit.int .u64 c).wf = true) (h4 : (Lit.int .u64 d).wf = true) :
    (Op.equalIn 10000 24 (.agg #[.int .u64 a, .int .u64 b, .int .u64 c, .int .u64 d]) (.agg #[.int .u64 a, .int .u64 b, .int .u64 c, .int .u64 d])).run Try.prog w = .ok true w := by
  rw [run_eq_line w _ _ _ _ _ _ _ _ h1 h2 h3 h4 h1 h2 h3 h4, eqv_true rfl]

set_option maxRecDepth 100000 in
theorem load_bad (a b c d k : Int) (w : World) (hk : k < 0 ∨ 3 < k) :
    Calls Try.prog 116 #[.agg #[.int .u64 a, .int .u64 b, .int .u64 c, .int .u64 d], .int .i64 k] w (Ret (.tuple #[.int .u64 0, .int .i64 4]) w) := by
  rcases hk with hk | hk
  · go_enter Try.func116, Try.ntmps116
    go_wp2
    go_ret2
    exact ⟨rfl, by repeat (first | exact Below.refl _ _ | apply bs_later | apply bs_alloc | apply bs_drew | apply bs_drewN)⟩
  · have hk2 : ¬ k < 0 := by omega
    go_enter Try.func116, Try.ntmps116
    go_wp2
    go_ret2
    exact ⟨rfl, by repeat (first | exact Below.refl _ _ | apply bs_later | apply bs_alloc | apply bs_drew | apply bs_drewN)⟩

set_option maxRecDepth 100000 in
theorem load_ok (a b c d k : Int) (w : World) (h0 : 0 ≤ k) (h3 : k ≤ 3) :
    Calls Try.prog 116 #[.agg #[.int .u64 a, .int .u64 b, .int .u64 c, .int .u64 d], .int .i64 k] w (Ret (.tuple #[.int .u64 (lget a b c d k), .int .i64 0]) w) := by
  obtain rfl | rfl | rfl | rfl : k = 0 ∨ k = 1 ∨ k = 2 ∨ k = 3 := by omega
  all_goals
    go_enter Try.func116, Try.ntmps116
    go_wp2
    go_ret2
    exact ⟨rfl, by repeat (first | exact Below.refl _ _ | apply bs_later | apply bs_alloc | apply bs_drew | apply bs_drewN)⟩

/-- what Load answers, at any place -/
def lgetE (a b c d k : Int) : Int := if 0 ≤ k ∧ k ≤ 3 then lget a b c d k else 0
def lerr (k : Int) : Int := if 0 ≤ k ∧ k ≤ 3 then 0 else 4
theorem load_any (a b c d k : Int) (w : World) :
    Calls Try.prog 116 #[.agg #[.int .u64 a, .int .u64 b, .int .u64 c, .int .u64 d], .int .i64 k] w (Ret (.tuple #[.int .u64 (lgetE a b c d k), .int .i64 (lerr k)]) w) := by
  by_cases h : 0 ≤ k ∧ k ≤ 3
  · have e1 : lgetE a b c d k = lget a b c d k := by unfold lgetE; rw [if_pos h]
    have e2 : lerr k = 0 := by unfold lerr; rw [if_pos h]
    rw [e1, e2]; exact load_ok a b c d k w h.1 h.2
  · have e1 : lgetE a b c d k = 0 := by unfold lgetE; rw [if_neg h]
    have e2 : lerr k = 4 := by unfold lerr; rw [if_neg h]
    rw [e1, e2]; exact load_bad a b c d k w (by omega)
theorem lget_lset (a b c d k v : Int) (h0 : 0 ≤ k) (h3 : k ≤ 3) : lgetE (lset 0 k v a) (lset 1 k v b) (lset 2 k v c) (lset 3 k v d) k = v := by
  unfold lgetE lget lset
  rw [if_pos ⟨h0, h3⟩]
  (repeat' split) <;> first | rfl | omega
theorem lget_other (a b c d k v o : Int) (h : ¬ o = k) : lgetE (lset 0 k v a) (lset 1 k v b) (lset 2 k v c) (lset 3 k v d) o = lgetE a b c d o := by
  unfold lgetE lget lset
  (repeat' split) <;> first | rfl | omega
theorem lerr_ok (k : Int) (h0 : 0 ≤ k) (h3 : k ≤ 3) : lerr k = 0 := by unfold lerr; rw [if_pos ⟨h0, h3⟩]
theorem lgetE_ok (a b c d k : Int) (h0 : 0 ≤ k) (h3 : k ≤ 3) : lgetE a b c d k = lget a b c d k := by unfold lgetE; rw [if_pos ⟨h0, h3⟩]

set_option maxRecDepth 100000 in
theorem swap_ok (a b c d k v : Int) (w : World) (h0 : 0 ≤ k) (h3 : k ≤ 3) :
    Calls Try.prog 108 #[.agg #[.int .u64 a, .int .u64 b, .int .u64 c, .int .u64 d], .int .i64 k, .int .u64 v] w
      (Ret (.tuple #[.agg #[.int .u64 (lset 0 k v a), .int .u64 (lset 1 k v b), .int .u64 (lset 2 k v c), .int .u64 (lset 3 k v d)], .int .u64 (lget a b c d k), .int .i64 0]) w) := by
  obtain rfl | rfl | rfl | rfl : k = 0 ∨ k = 1 ∨ k = 2 ∨ k = 3 := by omega
  all_goals
    go_enter Try.func108, Try.ntmps108
    go_wp2
    go_returns
    exact ⟨rfl, by repeat (first | exact Below.refl _ _ | apply bs_later | apply bs_alloc | apply bs_drew | apply bs_drewN)⟩

set_option maxRecDepth 100000 in
theorem swap_bad (a b c d k v : Int) (w : World) (hk : k < 0 ∨ 3 < k) :
    Calls Try.prog 108 #[.agg #[.int .u64 a, .int .u64 b, .int .u64 c, .int .u64 d], .int .i64 k, .int .u64 v] w
      (Ret (.tuple #[.agg #[.int .u64 0, .int .u64 0, .int .u64 0, .int .u64 0], .int .u64 0, .int .i64 4]) w) := by
  go_enter Try.func108, Try.ntmps108
  go_wp2_with (go_at_call 116; refine (load_bad _ _ _ _ _ _ hk).mono ?_; rintro e w1 ⟨rfl, hb1⟩; obtain ⟨l1, d1, rfl⟩ := later_of hb1; clear hb1)
  go_returns
  exact ⟨rfl, by repeat (first | exact Below.refl _ _ | apply bs_later | apply bs_alloc | apply bs_drew | apply bs_drewN)⟩

set_option maxRecDepth 100000 in
theorem store_bad (a b c d k v : Int) (w : World) (hk : k < 0 ∨ 3 < k) :
    Calls Try.prog 88 #[.agg #[.int .u64 a, .int .u64 b, .int .u64 c, .int .u64 d], .int .i64 k, .int .u64 v] w
      (Ret (.tuple #[.agg #[.int .u64 0, .int .u64 0, .int .u64 0, .int .u64 0], .int .i64 4]) w) := by
  go_enter Try.func88, Try.ntmps88
  go_wp2_with (go_at_call 108; refine (swap_bad _ _ _ _ _ _ _ hk).mono ?_; rintro e w1 ⟨rfl, hb1⟩; obtain ⟨l1, d1, rfl⟩ := later_of hb1; clear hb1)
  go_returns
  exact ⟨rfl, by repeat (first | exact Below.refl _ _ | apply bs_later | apply bs_alloc | apply bs_drew | apply bs_drewN)⟩

set_option maxRecDepth 100000 in
theorem store_ok (a b c d k v : Int) (w : World) (h0 : 0 ≤ k) (h3 : k ≤ 3) :
    Calls Try.prog 88 #[.agg #[.int .u64 a, .int .u64 b, .int .u64 c, .int .u64 d], .int .i64 k, .int .u64 v] w
      (Ret (.tuple #[.agg #[.int .u64 (lset 0 k v a), .int .u64 (lset 1 k v b), .int .u64 (lset 2 k v c), .int .u64 (lset 3 k v d)], .int .i64 0]) w) := by
  go_enter Try.func88, Try.ntmps88
  go_wp2_with (go_at_call 108; refine (swap_ok _ _ _ _ _ _ _ h0 h3).mono ?_; rintro e w1 ⟨rfl, hb1⟩; obtain ⟨l1, d1, rfl⟩ := later_of hb1; clear hb1)
  go_returns
  exact ⟨rfl, by repeat (first | exact Below.refl _ _ | apply bs_later | apply bs_alloc | apply bs_drew | apply bs_drewN)⟩
end Go.Proofs.Ytffhfpdmfegcpac.words
