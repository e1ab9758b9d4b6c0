/- ringdovekeep.StateOne: for every two states, the call returns true. -/
import Derived.Test.YtffhfpdmfegcpabState
namespace Go.Proofs.Ytffhfpdmfegcpab.stateOne
open Go.ChangeShapes Go.WideShapes Go.ChangeAt Go.RowKit
open Go.ChangeMaps (open_string shut_string)
open Go.Proofs.Ytffhfpdmfegcpab.base Go.Proofs.Ytffhfpdmfegcpab.knob Go.Proofs.Ytffhfpdmfegcpab.flat Go.Proofs.Ytffhfpdmfegcpab.state
set_option linter.unusedVariables false
set_option linter.unusedSimpArgs false

set_option maxHeartbeats 1000000 in
set_option maxRecDepth 100000 in
theorem states (w : World) : Calls Try.prog 58 #[] w (Ret (.bool true) w) := by
  have e1 : ownV 0 1 true = 2 := by decide
  have e2 : ownE 0 1 = 0 := by decide
  go_enter Try.func58, Try.ntmps58
  go_wp2_with (first
    | (go_at_call 84; refine (own_any _ _ _ _).mono ?_; rintro e w1 ⟨rfl, hb1⟩; obtain ⟨l1, d1, rfl⟩ := later_of hb1; clear hb1)
    | (go_at_call 85; refine (name_2 _).mono ?_; rintro e w1 ⟨rfl, rfl⟩))
  go_ret
  exact ⟨rfl, by repeat (first | exact Below.refl _ _ | apply bs_later | apply bs_alloc | apply bs_drew | apply bs_drewN)⟩

theorem sym (s t : Int) : besideB s t = besideB t s := by
  cases hs : stB s with
  | false => unfold besideB; rw [hs]; simp
  | true =>
    cases ht : stB t with
    | false => unfold besideB; rw [ht]; simp
    | true =>
      have h1 : 0 ≤ s ∧ s ≤ 4 := of_decide_eq_true hs
      have h2 : 0 ≤ t ∧ t ≤ 4 := of_decide_eq_true ht
      clear hs ht
      obtain rfl | rfl | rfl | rfl | rfl : s = 0 ∨ s = 1 ∨ s = 2 ∨ s = 3 ∨ s = 4 := by omega
      all_goals
        obtain rfl | rfl | rfl | rfl | rfl : t = 0 ∨ t = 1 ∨ t = 2 ∨ t = 3 ∨ t = 4 := by omega
        all_goals decide
theorem fits (s t : Int) (h : besideB s t = true) : (amongB s [2, 4] = false ∨ (amongB s [2, 4] = true ∧ amongB t [1, 2, 3, 4] = false ∧ amongB s [1, 2, 3, 4] = true)) ∧ (amongB s [3, 4] = false ∨ (amongB s [3, 4] = true ∧ amongB t [3, 4] = false ∧ amongB s [1, 2, 3, 4] = true)) := by
  have hs : stB s = true := by
    cases e : stB s with
    | true => rfl
    | false => unfold besideB at h; rw [e] at h; simp at h
  have ht : stB t = true := by
    cases e : stB t with
    | true => rfl
    | false => unfold besideB at h; rw [e] at h; simp at h
  have h1 : 0 ≤ s ∧ s ≤ 4 := of_decide_eq_true hs
  have h2 : 0 ≤ t ∧ t ≤ 4 := of_decide_eq_true ht
  clear hs ht
  obtain rfl | rfl | rfl | rfl | rfl : s = 0 ∨ s = 1 ∨ s = 2 ∨ s = 3 ∨ s = 4 := by omega
  all_goals
    obtain rfl | rfl | rfl | rfl | rfl : t = 0 ∨ t = 1 ∨ t = 2 ∨ t = 3 ∨ t = 4 := by omega
    all_goals first | exact absurd h (by decide) | decide

set_option maxHeartbeats 1000000 in
set_option maxRecDepth 100000 in
theorem walk (s t : Int) (w : World) (ws : (Lit.int .i64 s).wf = true) (wt : (Lit.int .i64 t).wf = true) :
    Calls Try.prog 13 #[.int .i64 s, .int .i64 t] w (Ret (.bool true) w) := by
  have hsym := sym s t
  cases h : besideB s t with
  | false =>
    rw [h] at hsym
    have h' := hsym.symm
    clear hsym
    go_enter Try.func13, Try.ntmps13
    go_wp2_with (first
      | (go_at_call 58; refine (states _).mono ?_; rintro e w1 ⟨rfl, hb1⟩; obtain ⟨l1, d1, rfl⟩ := later_of hb1; clear hb1)
      | (go_at_call 59; refine (beside_any _ _ _).mono ?_; rintro e w1 ⟨rfl, hb1⟩; obtain ⟨l1, d1, rfl⟩ := later_of hb1; clear hb1)
      | (go_at_call 60; refine (writes_any _ _).mono ?_; rintro e w1 ⟨rfl, hb1⟩; obtain ⟨l1, d1, rfl⟩ := later_of hb1; clear hb1)
      | (go_at_call 61; refine (reads_any _ _).mono ?_; rintro e w1 ⟨rfl, hb1⟩; obtain ⟨l1, d1, rfl⟩ := later_of hb1; clear hb1)
      | (go_at_call 62; refine (owns_any _ _).mono ?_; rintro e w1 ⟨rfl, hb1⟩; obtain ⟨l1, d1, rfl⟩ := later_of hb1; clear hb1))
    go_ret
    exact ⟨rfl, by repeat (first | exact Below.refl _ _ | apply bs_later | apply bs_alloc | apply bs_drew | apply bs_drewN)⟩
  | true =>
    rw [h] at hsym
    have h' := hsym.symm
    obtain ⟨f1, f2⟩ := fits s t h
    clear hsym
    rcases f1 with f1 | ⟨f1, f3, f4⟩
    all_goals
      rcases f2 with f2 | ⟨f2, f5, f6⟩
      all_goals
        go_enter Try.func13, Try.ntmps13
        go_wp2_with (first
      | (go_at_call 58; refine (states _).mono ?_; rintro e w1 ⟨rfl, hb1⟩; obtain ⟨l1, d1, rfl⟩ := later_of hb1; clear hb1)
      | (go_at_call 59; refine (beside_any _ _ _).mono ?_; rintro e w1 ⟨rfl, hb1⟩; obtain ⟨l1, d1, rfl⟩ := later_of hb1; clear hb1)
      | (go_at_call 60; refine (writes_any _ _).mono ?_; rintro e w1 ⟨rfl, hb1⟩; obtain ⟨l1, d1, rfl⟩ := later_of hb1; clear hb1)
      | (go_at_call 61; refine (reads_any _ _).mono ?_; rintro e w1 ⟨rfl, hb1⟩; obtain ⟨l1, d1, rfl⟩ := later_of hb1; clear hb1)
      | (go_at_call 62; refine (owns_any _ _).mono ?_; rintro e w1 ⟨rfl, hb1⟩; obtain ⟨l1, d1, rfl⟩ := later_of hb1; clear hb1))
        go_ret
        exact ⟨rfl, by repeat (first | exact Below.refl _ _ | apply bs_later | apply bs_alloc | apply bs_drew | apply bs_drewN)⟩

-- the frame, by program
set_option maxRecDepth 100000 in
theorem lifted (os : Os) (started : os.Started) (H : Type) (enc : TypeId × Value → H) :
    ReturnsInHanded {} Try.checked os 13 .any (Rows.stateOneSpec.pre6 enc Try.prog Try.f13 Rows.stateOneRow.domain false) (Rows.stateOneSpec.post enc Try.prog Try.f13 false true false false) := by
  refine returnsInHanded_of_change (C := Try.checked) own started (by kernel_rfl) Try.func13
    (ChangeSpec.witness6 (enc := enc) (C := Try.checked) false ⟨#[], #[.int .i64 0, .int .i64 0], []⟩ 8 (by kernel_rfl) (by kernel_rfl) (by kernel_rfl) (by kernel_rfl)) ?_
  intro W base args ds gs before hval0 hW hcnd _
  have hval : ∀ (j : Nat) t v, Try.f13.params[j]? = some t → args[j]? = some v → Value.okWide Try.prog W .any base t v := hval0
  have hW' := hW
  obtain ⟨p, q, hA0, hV, rfl, hfz, hnd⟩ := hW
  have hA : DataW.TrodAll enc Try.prog W 0 (fun _ => true) true Try.f13.params.toList args.toList ds p := hA0
  rw [Try.params13] at hA hval
  obtain ⟨v0, vs0, d0, ds0, p0, q0, hargs, rfl, rfl, h0, r0⟩ := trodAll_cons hA
  obtain ⟨v1, vs1, d1, ds1, p1, q1, rfl, rfl, rfl, h1, r1⟩ := trodAll_cons r0
  obtain ⟨rfl, rfl, rfl⟩ := trodAll_nil r1
  obtain rfl : args = #[v0, v1] := by cases args; simp_all
  obtain ⟨rfl, rfl⟩ := trodVars_none hV
  have k0 := h0
  have lt0 : ∀ x ∈ p0, x.block < W.heap.size := by obtain ⟨m, hm⟩ := k0; exact DataW.trod_lt m _ _ _ hm
  have k1 := h1
  have lt1 : ∀ x ∈ p1, x.block < W.heap.size := by obtain ⟨m, hm⟩ := k1; exact DataW.trod_lt m _ _ _ hm
  obtain ⟨a0, rfl, rfl, rfl, w0⟩ := open_int Try.underlying90 (hval 0 90 v0 rfl rfl) h0
  obtain ⟨a1, rfl, rfl, rfl, w1⟩ := open_int Try.underlying90 (hval 1 90 v1 rfl rfl) h1
  clear hA0 hval0
  refine (walk a0 a1 W w0 w1).mono fun e W' ⟨he, bel⟩ => ?_
  subst he
  exact ⟨_, rfl, _, _, _, [], _, [], hW', trodAll_mk1 (shut_bool Try.underlying4 _), (trodAll_cons_mk (Below.trod laidOut (by kernel_rfl) (of_decide_eq_true (by kernel_rfl)) k0 bel lt0) (trodAll_cons_mk (Below.trod laidOut (by kernel_rfl) (of_decide_eq_true (by kernel_rfl)) k1 bel lt1) trodAll_mk0)), rfl, bel.frame _, fun h => by cases h⟩

theorem over : Rows.stateOneRow.holds Try.pinned (OpenSpec.ofChange Rows.stateOneSpec) :=
  OpenClaim.holds_of_wide 13 Try.f13 rfl rfl rfl rfl rfl rfl rfl ⟨rfl, rfl, rfl, rfl, rfl⟩ rfl rfl rfl rfl rfl (by kernel_rfl) Try.func13 (by kernel_rfl)
    (of_decide_eq_true (by kernel_rfl)) (by unfold Func.isWrapper; first | (rw [if_pos (by decide +kernel)]; kernel_rfl) | (rw [if_neg (by decide +kernel)]; exact ⟨rfl, rfl⟩))
    (fun os started H enc _ => lifted os started H enc)

theorem proved : Rows.StateOneSaid := over

end Go.Proofs.Ytffhfpdmfegcpab.stateOne
