/- ringdovekeep.StateKeeps: for every three states and kind, the call returns true. -/
import Derived.Test.YtffhfpdmfegcpacStateOther
import Derived.Test.YtffhfpdmfegcpacStateStates
import Derived.Test.YtffhfpdmfegcpacGoodBad
namespace Go.Proofs.Ytffhfpdmfegcpac.stateKeeps
open Go.ChangeShapes Go.WideShapes Go.ChangeAt Go.RowKit
open Go.ChangeMaps (open_string shut_string)
open Go.Proofs.Ytffhfpdmfegcpac.base Go.Proofs.Ytffhfpdmfegcpac.knob Go.Proofs.Ytffhfpdmfegcpac.flat Go.Proofs.Ytffhfpdmfegcpac.state
set_option linter.unusedVariables false
set_option linter.unusedSimpArgs false

theorem three_ok {w : World} {n : Nat} (h : n = w.heap.size) : ∀ i, i < 3 → (w.alloc (.cells #[.int .i64 0, .int .i64 0, .int .i64 0] 31)).cell? ⟨n, i, none⟩ = some (.int .i64 0) := by
  intro i hi
  rw [World.cell?_alloc_at _ _ _ _ h]
  obtain rfl | rfl | rfl : i = 0 ∨ i = 1 ∨ i = 2 := by omega
  all_goals rfl

theorem one_bad {w : World} {n : Nat} (h : n = w.heap.size) : (w.alloc (.cells #[.int .i64 1, .int .i64 1, .int .i64 1] 31)).cell? ⟨n, 0, none⟩ = some (.int .i64 1) := by
  rw [World.cell?_alloc_at _ _ _ _ h]; rfl

theorem beside_st {s t : Int} (h : besideB s t = true) : stB s = true ∧ stB t = true := by
  constructor
  · cases e : stB s with
    | true => rfl
    | false => unfold besideB at h; rw [e] at h; simp at h
  · cases e : stB t with
    | true => rfl
    | false => unfold besideB at h; rw [e] at h; simp at h

def Keeps (s t m k : Int) : Prop := besideB (otherV s k) (otherV t k) = true ∧ besideB (ownV m k (decide (s = 0) && decide (t = 0))) (otherV s k) = true ∧ besideB (ownV m k (decide (s = 0) && decide (t = 0))) (otherV t k) = true
instance (s t m k : Int) : Decidable (Keeps s t m k) := by unfold Keeps; exact inferInstance

set_option maxHeartbeats 4000000 in
theorem keeps (s t m k : Int) (h1 : besideB s t = true) (h2 : besideB s m = true) (h3 : besideB t m = true) (hk : 1 ≤ k ∧ k ≤ 4) : Keeps s t m k := by
  have hs : 0 ≤ s ∧ s ≤ 4 := of_decide_eq_true (beside_st h1).1
  have ht : 0 ≤ t ∧ t ≤ 4 := of_decide_eq_true (beside_st h1).2
  have hm : 0 ≤ m ∧ m ≤ 4 := of_decide_eq_true (beside_st h2).2
  obtain rfl | rfl | rfl | rfl | rfl : s = 0 ∨ s = 1 ∨ s = 2 ∨ s = 3 ∨ s = 4 := by omega
  all_goals
    obtain rfl | rfl | rfl | rfl | rfl : t = 0 ∨ t = 1 ∨ t = 2 ∨ t = 3 ∨ t = 4 := by omega
    all_goals first
      | exact absurd h1 (by decide)
      | (obtain rfl | rfl | rfl | rfl | rfl : m = 0 ∨ m = 1 ∨ m = 2 ∨ m = 3 ∨ m = 4 := by omega
         all_goals first
           | exact absurd h2 (by decide)
           | exact absurd h3 (by decide)
           | (obtain rfl | rfl | rfl | rfl : k = 1 ∨ k = 2 ∨ k = 3 ∨ k = 4 := by omega
              all_goals decide))

set_option maxHeartbeats 2000000 in
set_option maxRecDepth 100000 in
theorem walk_no (s t m k : Int) (w : World) (h : besideB s t = false ∨ (besideB s t = true ∧ besideB s m = false) ∨ (besideB s t = true ∧ besideB s m = true ∧ besideB t m = false)) :
    Calls Try.prog 4 #[.int .i64 s, .int .i64 t, .int .i64 m, .int .i64 k] w (Ret (.bool true) w) := by
  rcases h with h | ⟨h, h2⟩ | ⟨h, h2, h3⟩
  all_goals
    go_enter Try.func4, Try.ntmps4
    go_wp2_with (first
      | (go_at_call 12; refine (stateStates.states _).mono ?_; rintro e w1 ⟨rfl, hb1⟩; obtain ⟨l1, d1, rfl⟩ := later_of hb1; clear hb1)
      | (go_at_call 13; refine (beside_any _ _ _).mono ?_; rintro e w1 ⟨rfl, hb1⟩; obtain ⟨l1, d1, rfl⟩ := later_of hb1; clear hb1)
      | (go_at_call 14; refine (own_any _ _ _ _).mono ?_; rintro e w1 ⟨rfl, hb1⟩; obtain ⟨l1, d1, rfl⟩ := later_of hb1; clear hb1)
      | (go_at_call 15; refine (other_any _ _ _).mono ?_; rintro e w1 ⟨rfl, hb1⟩; obtain ⟨l1, d1, rfl⟩ := later_of hb1; clear hb1)
      | (go_at_call 16; refine (goods.good_ok _ _ _ _ (by decide) (three_ok (by simp))).mono ?_; rintro e w1 ⟨rfl, rfl⟩))
    go_ret
    exact ⟨rfl, by repeat (first | exact Below.refl _ _ | apply bs_later | apply bs_alloc | apply bs_drew | apply bs_drewN)⟩

set_option maxHeartbeats 2000000 in
set_option maxRecDepth 100000 in
theorem walk_bad (s t m k : Int) (w : World) (h : besideB s t = true) (h2 : besideB s m = true) (h3 : besideB t m = true) (hk : ¬ (1 ≤ k ∧ k ≤ 4)) :
    Calls Try.prog 4 #[.int .i64 s, .int .i64 t, .int .i64 m, .int .i64 k] w (Ret (.bool true) w) := by
  have e0 : kindB k = false := decide_eq_false hk
  have e1 : ownE m k = 1 := if_neg (by rw [e0]; simp)
  have e2 : ownE s k = 1 := if_neg (by rw [e0]; simp)
  have e3 : ownE t k = 1 := if_neg (by rw [e0]; simp)
  clear e0 hk
  have hst : (s = 0 ∧ t = 0) ∨ (s = 0 ∧ (t == 0) = false) ∨ (s == 0) = false := by
    by_cases a : s = 0
    · by_cases b : t = 0
      · exact .inl ⟨a, b⟩
      · exact .inr (.inl ⟨a, by simpa using b⟩)
    · exact .inr (.inr (by simpa using a))
  rcases hst with ⟨rfl, rfl⟩ | ⟨rfl, g⟩ | g
  all_goals
    go_enter Try.func4, Try.ntmps4
    go_wp2_with (first
      | (go_at_call 12; refine (stateStates.states _).mono ?_; rintro e w1 ⟨rfl, hb1⟩; obtain ⟨l1, d1, rfl⟩ := later_of hb1; clear hb1)
      | (go_at_call 13; refine (beside_any _ _ _).mono ?_; rintro e w1 ⟨rfl, hb1⟩; obtain ⟨l1, d1, rfl⟩ := later_of hb1; clear hb1)
      | (go_at_call 14; refine (own_any _ _ _ _).mono ?_; rintro e w1 ⟨rfl, hb1⟩; obtain ⟨l1, d1, rfl⟩ := later_of hb1; clear hb1)
      | (go_at_call 15; refine (other_any _ _ _).mono ?_; rintro e w1 ⟨rfl, hb1⟩; obtain ⟨l1, d1, rfl⟩ := later_of hb1; clear hb1)
      | (go_at_call 16; refine (goods.good_bad _ _ _ _ _ (by decide) (one_bad (by simp)) (by decide)).mono ?_; rintro e w1 ⟨rfl, rfl⟩))
    go_ret
    exact ⟨rfl, by repeat (first | exact Below.refl _ _ | apply bs_later | apply bs_alloc | apply bs_drew | apply bs_drewN)⟩

set_option maxHeartbeats 2000000 in
set_option maxRecDepth 100000 in
theorem walk_ok (s t m k : Int) (w : World) (h : besideB s t = true) (h2 : besideB s m = true) (h3 : besideB t m = true) (hk : 1 ≤ k ∧ k ≤ 4) :
    Calls Try.prog 4 #[.int .i64 s, .int .i64 t, .int .i64 m, .int .i64 k] w (Ret (.bool true) w) := by
  have e0 : kindB k = true := decide_eq_true hk
  have e1 : ownE m k = 0 := if_pos ⟨(beside_st h2).2, e0⟩
  have e2 : ownE s k = 0 := if_pos ⟨(beside_st h2).1, e0⟩
  have e3 : ownE t k = 0 := if_pos ⟨(beside_st h3).1, e0⟩
  obtain ⟨k1, k2, k3⟩ := keeps s t m k h h2 h3 hk
  clear e0 hk
  have hst : (s = 0 ∧ t = 0) ∨ (s = 0 ∧ ¬ t = 0) ∨ ¬ s = 0 := by omega
  rcases hst with ⟨rfl, rfl⟩ | ⟨rfl, g⟩ | g
  · have ed : (decide ((0 : Int) = 0) && decide ((0 : Int) = 0)) = true := by decide
    rw [ed] at k2 k3
    clear ed
    go_enter Try.func4, Try.ntmps4
    go_wp2_with (first
      | (go_at_call 12; refine (stateStates.states _).mono ?_; rintro e w1 ⟨rfl, hb1⟩; obtain ⟨l1, d1, rfl⟩ := later_of hb1; clear hb1)
      | (go_at_call 13; refine (beside_any _ _ _).mono ?_; rintro e w1 ⟨rfl, hb1⟩; obtain ⟨l1, d1, rfl⟩ := later_of hb1; clear hb1)
      | (go_at_call 14; refine (own_any _ _ _ _).mono ?_; rintro e w1 ⟨rfl, hb1⟩; obtain ⟨l1, d1, rfl⟩ := later_of hb1; clear hb1)
      | (go_at_call 15; refine (other_any _ _ _).mono ?_; rintro e w1 ⟨rfl, hb1⟩; obtain ⟨l1, d1, rfl⟩ := later_of hb1; clear hb1)
      | (go_at_call 16; refine (goods.good_ok _ _ _ _ (by decide) (three_ok (by simp))).mono ?_; rintro e w1 ⟨rfl, rfl⟩))
    go_ret
    exact ⟨rfl, by repeat (first | exact Below.refl _ _ | apply bs_later | apply bs_alloc | apply bs_drew | apply bs_drewN)⟩
  · have ed : (decide ((0 : Int) = 0) && decide (t = 0)) = false := by simp [g]
    rw [ed] at k2 k3
    have g' : (t == 0) = false := by simpa using g
    clear ed g
    go_enter Try.func4, Try.ntmps4
    go_wp2_with (first
      | (go_at_call 12; refine (stateStates.states _).mono ?_; rintro e w1 ⟨rfl, hb1⟩; obtain ⟨l1, d1, rfl⟩ := later_of hb1; clear hb1)
      | (go_at_call 13; refine (beside_any _ _ _).mono ?_; rintro e w1 ⟨rfl, hb1⟩; obtain ⟨l1, d1, rfl⟩ := later_of hb1; clear hb1)
      | (go_at_call 14; refine (own_any _ _ _ _).mono ?_; rintro e w1 ⟨rfl, hb1⟩; obtain ⟨l1, d1, rfl⟩ := later_of hb1; clear hb1)
      | (go_at_call 15; refine (other_any _ _ _).mono ?_; rintro e w1 ⟨rfl, hb1⟩; obtain ⟨l1, d1, rfl⟩ := later_of hb1; clear hb1)
      | (go_at_call 16; refine (goods.good_ok _ _ _ _ (by decide) (three_ok (by simp))).mono ?_; rintro e w1 ⟨rfl, rfl⟩))
    go_ret
    exact ⟨rfl, by repeat (first | exact Below.refl _ _ | apply bs_later | apply bs_alloc | apply bs_drew | apply bs_drewN)⟩
  · have ed : (decide (s = 0) && decide (t = 0)) = false := by simp [g]
    rw [ed] at k2 k3
    have g' : (s == 0) = false := by simpa using g
    clear ed g
    go_enter Try.func4, Try.ntmps4
    go_wp2_with (first
      | (go_at_call 12; refine (stateStates.states _).mono ?_; rintro e w1 ⟨rfl, hb1⟩; obtain ⟨l1, d1, rfl⟩ := later_of hb1; clear hb1)
      | (go_at_call 13; refine (beside_any _ _ _).mono ?_; rintro e w1 ⟨rfl, hb1⟩; obtain ⟨l1, d1, rfl⟩ := later_of hb1; clear hb1)
      | (go_at_call 14; refine (own_any _ _ _ _).mono ?_; rintro e w1 ⟨rfl, hb1⟩; obtain ⟨l1, d1, rfl⟩ := later_of hb1; clear hb1)
      | (go_at_call 15; refine (other_any _ _ _).mono ?_; rintro e w1 ⟨rfl, hb1⟩; obtain ⟨l1, d1, rfl⟩ := later_of hb1; clear hb1)
      | (go_at_call 16; refine (goods.good_ok _ _ _ _ (by decide) (three_ok (by simp))).mono ?_; rintro e w1 ⟨rfl, rfl⟩))
    go_ret
    exact ⟨rfl, by repeat (first | exact Below.refl _ _ | apply bs_later | apply bs_alloc | apply bs_drew | apply bs_drewN)⟩

theorem walk (s t m k : Int) (w : World) (ws : (Lit.int .i64 s).wf = true) (wt : (Lit.int .i64 t).wf = true) (wm : (Lit.int .i64 m).wf = true) (wk : (Lit.int .i64 k).wf = true) :
    Calls Try.prog 4 #[.int .i64 s, .int .i64 t, .int .i64 m, .int .i64 k] w (Ret (.bool true) w) := by
  cases h : besideB s t with
  | false => exact walk_no s t m k w (.inl h)
  | true =>
    cases h2 : besideB s m with
    | false => exact walk_no s t m k w (.inr (.inl ⟨h, h2⟩))
    | true =>
      cases h3 : besideB t m with
      | false => exact walk_no s t m k w (.inr (.inr ⟨h, h2, h3⟩))
      | true =>
        by_cases hk : 1 ≤ k ∧ k ≤ 4
        · exact walk_ok s t m k w h h2 h3 hk
        · exact walk_bad s t m k w h h2 h3 hk

-- the frame, by program
set_option maxRecDepth 100000 in
theorem lifted (os : Os) (started : os.Started) (H : Type) (enc : TypeId × Value → H) :
    ReturnsInHanded {} Try.checked os 4 .any (Rows.stateKeepsSpec.pre6 enc Try.prog Try.f4 Rows.stateKeepsRow.domain false) (Rows.stateKeepsSpec.post enc Try.prog Try.f4 false true false false) := by
  refine returnsInHanded_of_change (C := Try.checked) own started (by kernel_rfl) Try.func4
    (ChangeSpec.witness6 (enc := enc) (C := Try.checked) false ⟨#[], #[.int .i64 0, .int .i64 0, .int .i64 0, .int .i64 0], []⟩ 8 (by kernel_rfl) (by kernel_rfl) (by kernel_rfl) (by kernel_rfl)) ?_
  intro W base args ds gs before hval0 hW hcnd _
  have hval : ∀ (j : Nat) t v, Try.f4.params[j]? = some t → args[j]? = some v → Value.okWide Try.prog W .any base t v := hval0
  have hW' := hW
  obtain ⟨p, q, hA0, hV, rfl, hfz, hnd⟩ := hW
  have hA : DataW.TrodAll enc Try.prog W 0 (fun _ => true) true Try.f4.params.toList args.toList ds p := hA0
  rw [Try.params4] at hA hval
  obtain ⟨v0, vs0, d0, ds0, p0, q0, hargs, rfl, rfl, h0, r0⟩ := trodAll_cons hA
  obtain ⟨v1, vs1, d1, ds1, p1, q1, rfl, rfl, rfl, h1, r1⟩ := trodAll_cons r0
  obtain ⟨v2, vs2, d2, ds2, p2, q2, rfl, rfl, rfl, h2, r2⟩ := trodAll_cons r1
  obtain ⟨v3, vs3, d3, ds3, p3, q3, rfl, rfl, rfl, h3, r3⟩ := trodAll_cons r2
  obtain ⟨rfl, rfl, rfl⟩ := trodAll_nil r3
  obtain rfl : args = #[v0, v1, v2, v3] := by cases args; simp_all
  obtain ⟨rfl, rfl⟩ := trodVars_none hV
  have k0 := h0
  have lt0 : ∀ x ∈ p0, x.block < W.heap.size := by obtain ⟨m, hm⟩ := k0; exact DataW.trod_lt m _ _ _ hm
  have k1 := h1
  have lt1 : ∀ x ∈ p1, x.block < W.heap.size := by obtain ⟨m, hm⟩ := k1; exact DataW.trod_lt m _ _ _ hm
  have k2 := h2
  have lt2 : ∀ x ∈ p2, x.block < W.heap.size := by obtain ⟨m, hm⟩ := k2; exact DataW.trod_lt m _ _ _ hm
  have k3 := h3
  have lt3 : ∀ x ∈ p3, x.block < W.heap.size := by obtain ⟨m, hm⟩ := k3; exact DataW.trod_lt m _ _ _ hm
  obtain ⟨a0, rfl, rfl, rfl, w0⟩ := open_int Try.underlying46 (hval 0 46 v0 rfl rfl) h0
  obtain ⟨a1, rfl, rfl, rfl, w1⟩ := open_int Try.underlying46 (hval 1 46 v1 rfl rfl) h1
  obtain ⟨a2, rfl, rfl, rfl, w2⟩ := open_int Try.underlying46 (hval 2 46 v2 rfl rfl) h2
  obtain ⟨a3, rfl, rfl, rfl, w3⟩ := open_int Try.underlying35 (hval 3 35 v3 rfl rfl) h3
  clear hA0 hval0
  refine (walk a0 a1 a2 a3 W w0 w1 w2 w3).mono fun e W' ⟨he, bel⟩ => ?_
  subst he
  exact ⟨_, rfl, _, _, _, [], _, [], hW', trodAll_mk1 (shut_bool Try.underlying4 _), (trodAll_cons_mk (Below.trod laidOut (by kernel_rfl) (of_decide_eq_true (by kernel_rfl)) k0 bel lt0) (trodAll_cons_mk (Below.trod laidOut (by kernel_rfl) (of_decide_eq_true (by kernel_rfl)) k1 bel lt1) (trodAll_cons_mk (Below.trod laidOut (by kernel_rfl) (of_decide_eq_true (by kernel_rfl)) k2 bel lt2) (trodAll_cons_mk (Below.trod laidOut (by kernel_rfl) (of_decide_eq_true (by kernel_rfl)) k3 bel lt3) trodAll_mk0)))), rfl, bel.frame _, fun h => by cases h⟩

theorem over : Rows.stateKeepsRow.holds Try.pinned (OpenSpec.ofChange Rows.stateKeepsSpec) :=
  OpenClaim.holds_of_wide 4 Try.f4 rfl rfl rfl rfl rfl rfl rfl ⟨rfl, rfl, rfl, rfl, rfl⟩ rfl rfl rfl rfl rfl (by kernel_rfl) Try.func4 (by kernel_rfl)
    (of_decide_eq_true (by kernel_rfl)) (by unfold Func.isWrapper; first | (rw [if_pos (by decide +kernel)]; kernel_rfl) | (rw [if_neg (by decide +kernel)]; exact ⟨rfl, rfl⟩))
    (fun os started H enc _ => lifted os started H enc)

theorem proved : Rows.StateKeepsSaid := over

end Go.Proofs.Ytffhfpdmfegcpac.stateKeeps
