/- ringdovekeep.PlruSpares: for every tree and two numbers, the call returns true. -/
import Derived.Test.YtffhfpdmfegcpaaPlru
import Derived.Test.YtffhfpdmfegcpaaSame
namespace Go.Proofs.Ytffhfpdmfegcpaa.plruSpares
open Go.ChangeShapes Go.WideShapes Go.ChangeAt Go.RowKit
open Go.ChangeMaps (open_string shut_string)
open Go.Proofs.Ytffhfpdmfegcpaa.base Go.Proofs.Ytffhfpdmfegcpaa.knob Go.Proofs.Ytffhfpdmfegcpaa.flat Go.Proofs.Ytffhfpdmfegcpaa.plru
set_option linter.unusedVariables false
set_option linter.unusedSimpArgs false

set_option maxRecDepth 100000 in
theorem plrus (w : World) : Calls Try.prog 46 #[] w (Ret (.bool true) w) := by
  have e1 : touchA false false false 2 0 = true := by decide
  have e2 : touchB false false false 2 0 = false := by decide
  have e3 : touchC false false false 2 0 = false := by decide
  have e4 : touchE false false false 2 0 = 0 := by decide
  have e5 : plruE true false false 2 = 0 := by decide
  have e6 : victimV true false false 2 = 1 := by decide
  go_enter Try.func46, Try.ntmps46
  go_wp2_with (first
    | (go_at_call 32; refine (touch_any _ _ _ _ _ _).mono ?_; rintro e w1 ⟨rfl, hb1⟩; obtain ⟨l1, d1, rfl⟩ := later_of hb1; clear hb1)
    | (go_at_call 33; refine (victim_any _ _ _ _ _).mono ?_; rintro e w1 ⟨rfl, hb1⟩; obtain ⟨l1, d1, rfl⟩ := later_of hb1; clear hb1))
  go_ret
  exact ⟨rfl, by repeat (first | exact Below.refl _ _ | apply bs_later | apply bs_alloc | apply bs_drew | apply bs_drewN)⟩

/-- '==' at two trees -/
theorem run_eq_tree (w : World) (a b c a' b' c' : Bool) :
    (Op.equalIn 10000 54 (.agg #[.bool a, .bool b, .bool c]) (.agg #[.bool a', .bool b', .bool c'])).run Try.prog w = .ok (same.eqv [.bool a, .bool b, .bool c] [.bool a', .bool b', .bool c']) w :=
  same.run_equalIn_flat w 3 _ [.bool, .bool, .bool] (by kernel_rfl) (by kernel_rfl) (by kernel_rfl) (by omega) (.inl ⟨_, Try.underlying54⟩)
    [.bool a, .bool b, .bool c] [.bool a', .bool b', .bool c'] ⟨⟨_, rfl⟩, ⟨_, rfl⟩, ⟨_, rfl⟩, trivial⟩ ⟨⟨_, rfl⟩, ⟨_, rfl⟩, ⟨_, rfl⟩, trivial⟩

set_option maxHeartbeats 1000000 in
set_option maxRecDepth 100000 in
theorem walk_bad (a b c : Bool) (n k : Int) (w : World) (h : ¬ touchE a b c n k = 0) :
    Calls Try.prog 11 #[.agg #[.bool a, .bool b, .bool c], .int .i64 n, .int .i64 k] w (Ret (.bool true) w) := by
  have ea : touchA a b c n k = false := by unfold touchA; rw [if_neg h]
  have eb : touchB a b c n k = false := by unfold touchB; rw [if_neg h]
  have ec : touchC a b c n k = false := by unfold touchC; rw [if_neg h]
  have h' : (touchE a b c n k != 0) = true := by simpa using h
  clear h
  go_enter Try.func11, Try.ntmps11
  go_wp2_with (first
    | (go_at_call 46; refine (plrus _).mono ?_; rintro e w1 ⟨rfl, hb1⟩; obtain ⟨l1, d1, rfl⟩ := later_of hb1; clear hb1)
    | (go_at_call 32; refine (touch_any _ _ _ _ _ _).mono ?_; rintro e w1 ⟨rfl, hb1⟩; obtain ⟨l1, d1, rfl⟩ := later_of hb1; clear hb1)
    | (go_at_call 33; refine (victim_any _ _ _ _ _).mono ?_; rintro e w1 ⟨rfl, hb1⟩; obtain ⟨l1, d1, rfl⟩ := later_of hb1; clear hb1))
  go_ret
  exact ⟨rfl, by repeat (first | exact Below.refl _ _ | apply bs_later | apply bs_alloc | apply bs_drew | apply bs_drewN)⟩

theorem spares (a b c : Bool) (n k : Int) (h : touchE a b c n k = 0) :
    plruE (touchA a b c n k) (touchB a b c n k) (touchC a b c n k) n = 0 ∧ 0 ≤ victimV (touchA a b c n k) (touchB a b c n k) (touchC a b c n k) n ∧ victimV (touchA a b c n k) (touchB a b c n k) (touchC a b c n k) n < n ∧
    (n = 1 ∨ ((n == 1) = false ∧ (victimV (touchA a b c n k) (touchB a b c n k) (touchC a b c n k) n != k) = true)) := by
  have h0 : plruE a b c n = 0 := by
    unfold touchE at h
    split at h
    · assumption
    · exact h
  have hk : ¬ (k < 0 ∨ n ≤ k) := by
    intro hk
    unfold touchE at h
    rw [if_pos h0, if_pos hk] at h
    omega
  have hn : (n = 1 ∧ k = 0) ∨ (n = 2 ∧ k = 0) ∨ (n = 2 ∧ k = 1) ∨ (n = 3 ∧ k = 0) ∨ (n = 3 ∧ k = 1) ∨ (n = 3 ∧ k = 2) ∨ (n = 4 ∧ k = 0) ∨ (n = 4 ∧ k = 1) ∨ (n = 4 ∧ k = 2) ∨ (n = 4 ∧ k = 3) := by
    by_cases h1 : n < 1 ∨ 4 < n
    · rw [show plruE a b c n = 4 from if_pos h1] at h0; omega
    · omega
  clear h hk
  rcases hn with ⟨rfl, rfl⟩ | ⟨rfl, rfl⟩ | ⟨rfl, rfl⟩ | ⟨rfl, rfl⟩ | ⟨rfl, rfl⟩ | ⟨rfl, rfl⟩ | ⟨rfl, rfl⟩ | ⟨rfl, rfl⟩ | ⟨rfl, rfl⟩ | ⟨rfl, rfl⟩
  all_goals
    cases a <;> cases b <;> cases c
    all_goals first | exact absurd h0 (by decide) | decide

set_option maxHeartbeats 1000000 in
set_option maxRecDepth 100000 in
theorem walk_ok (a b c : Bool) (n k : Int) (w : World) (h : touchE a b c n k = 0) :
    Calls Try.prog 11 #[.agg #[.bool a, .bool b, .bool c], .int .i64 n, .int .i64 k] w (Ret (.bool true) w) := by
  obtain ⟨e1, e2, e3, rfl | ⟨e4, e5⟩⟩ := spares a b c n k h
  all_goals
    go_enter Try.func11, Try.ntmps11
    go_wp2_with (first
      | (go_at_call 46; refine (plrus _).mono ?_; rintro e w1 ⟨rfl, hb1⟩; obtain ⟨l1, d1, rfl⟩ := later_of hb1; clear hb1)
      | (go_at_call 32; refine (touch_any _ _ _ _ _ _).mono ?_; rintro e w1 ⟨rfl, hb1⟩; obtain ⟨l1, d1, rfl⟩ := later_of hb1; clear hb1)
      | (go_at_call 35; refine (check_any _ _ _ _ _).mono ?_; rintro e w1 ⟨rfl, hb1⟩; obtain ⟨l1, d1, rfl⟩ := later_of hb1; clear hb1)
      | (go_at_call 33; refine (victim_any _ _ _ _ _).mono ?_; rintro e w1 ⟨rfl, hb1⟩; obtain ⟨l1, d1, rfl⟩ := later_of hb1; clear hb1))
    go_ret
    exact ⟨rfl, by repeat (first | exact Below.refl _ _ | apply bs_later | apply bs_alloc | apply bs_drew | apply bs_drewN)⟩

theorem walk (a b c : Bool) (n k : Int) (w : World) (wn : (Lit.int .i64 n).wf = true) (wk : (Lit.int .i64 k).wf = true) :
    Calls Try.prog 11 #[.agg #[.bool a, .bool b, .bool c], .int .i64 n, .int .i64 k] w (Ret (.bool true) w) := by
  by_cases h : touchE a b c n k = 0
  · exact walk_ok a b c n k w h
  · exact walk_bad a b c n k w h

-- the frame, by program
set_option maxRecDepth 100000 in
theorem lifted (os : Os) (started : os.Started) (H : Type) (enc : TypeId × Value → H) :
    ReturnsInHanded {} Try.checked os 11 .any (Rows.plruSparesSpec.pre6 enc Try.prog Try.f11 Rows.plruSparesRow.domain false) (Rows.plruSparesSpec.post enc Try.prog Try.f11 false true false false) := by
  refine returnsInHanded_of_change (C := Try.checked) own started (by kernel_rfl) Try.func11
    (ChangeSpec.witness6 (enc := enc) (C := Try.checked) false ⟨#[], #[.agg #[.bool false, .bool false, .bool false], .int .i64 0, .int .i64 0], []⟩ 8 (by kernel_rfl) (by kernel_rfl) (by kernel_rfl) (by kernel_rfl)) ?_
  intro W base args ds gs before hval0 hW hcnd _
  have hval : ∀ (j : Nat) t v, Try.f11.params[j]? = some t → args[j]? = some v → Value.okWide Try.prog W .any base t v := hval0
  have hW' := hW
  obtain ⟨p, q, hA0, hV, rfl, hfz, hnd⟩ := hW
  have hA : DataW.TrodAll enc Try.prog W 0 (fun _ => true) true Try.f11.params.toList args.toList ds p := hA0
  rw [Try.params11] at hA hval
  obtain ⟨v0, vs0, d0, ds0, p0, q0, hargs, rfl, rfl, h0, r0⟩ := trodAll_cons hA
  obtain ⟨v1, vs1, d1, ds1, p1, q1, rfl, rfl, rfl, h1, r1⟩ := trodAll_cons r0
  obtain ⟨v2, vs2, d2, ds2, p2, q2, rfl, rfl, rfl, h2, r2⟩ := trodAll_cons r1
  obtain ⟨rfl, rfl, rfl⟩ := trodAll_nil r2
  obtain rfl : args = #[v0, v1, v2] := by cases args; simp_all
  obtain ⟨rfl, rfl⟩ := trodVars_none hV
  have k0 := h0
  have lt0 : ∀ x ∈ p0, x.block < W.heap.size := by obtain ⟨m, hm⟩ := k0; exact DataW.trod_lt m _ _ _ hm
  have k1 := h1
  have lt1 : ∀ x ∈ p1, x.block < W.heap.size := by obtain ⟨m, hm⟩ := k1; exact DataW.trod_lt m _ _ _ hm
  have k2 := h2
  have lt2 : ∀ x ∈ p2, x.block < W.heap.size := by obtain ⟨m, hm⟩ := k2; exact DataW.trod_lt m _ _ _ hm
  obtain ⟨cs0, rfl, al0⟩ := open_flat (n := 4) [.bool, .bool, .bool] (by kernel_rfl) (by kernel_rfl) (.inl ⟨_, Try.underlying54⟩) (hval 0 54 v0 rfl rfl) h0
  obtain ⟨a0x, a0y, a0z, rfl⟩ := all2_tree al0
  obtain ⟨a1, rfl, rfl, rfl, w1⟩ := open_int Try.underlying3 (hval 1 3 v1 rfl rfl) h1
  obtain ⟨a2, rfl, rfl, rfl, w2⟩ := open_int Try.underlying3 (hval 2 3 v2 rfl rfl) h2
  clear hA0 hval0
  refine (walk a0x a0y a0z a1 a2 W w1 w2).mono fun e W' ⟨he, bel⟩ => ?_
  subst he
  exact ⟨_, rfl, _, _, _, [], _, [], hW', trodAll_mk1 (shut_bool Try.underlying4 _), (trodAll_cons_mk (Below.trod laidOut (by kernel_rfl) (of_decide_eq_true (by kernel_rfl)) k0 bel lt0) (trodAll_cons_mk (Below.trod laidOut (by kernel_rfl) (of_decide_eq_true (by kernel_rfl)) k1 bel lt1) (trodAll_cons_mk (Below.trod laidOut (by kernel_rfl) (of_decide_eq_true (by kernel_rfl)) k2 bel lt2) trodAll_mk0))), rfl, bel.frame _, fun h => by cases h⟩

theorem over : Rows.plruSparesRow.holds Try.pinned (OpenSpec.ofChange Rows.plruSparesSpec) :=
  OpenClaim.holds_of_wide 11 Try.f11 rfl rfl rfl rfl rfl rfl rfl ⟨rfl, rfl, rfl, rfl, rfl⟩ rfl rfl rfl rfl rfl (by kernel_rfl) Try.func11 (by kernel_rfl)
    (of_decide_eq_true (by kernel_rfl)) (by unfold Func.isWrapper; first | (rw [if_pos (by decide +kernel)]; kernel_rfl) | (rw [if_neg (by decide +kernel)]; exact ⟨rfl, rfl⟩))
    (fun os started H enc _ => lifted os started H enc)

theorem proved : Rows.PlruSparesSaid := over

end Go.Proofs.Ytffhfpdmfegcpaa.plruSpares
