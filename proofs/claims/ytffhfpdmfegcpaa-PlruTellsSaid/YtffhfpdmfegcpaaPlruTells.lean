/- ringdovelaw.PlruTells: for every tree and two numbers, the call returns true. -/
import Derived.Test.YtffhfpdmfegcpaaPlruLaw
import Derived.Deep.RegionWith
namespace Go.Proofs.Ytffhfpdmfegcpaa.plruTells
open Go.ChangeShapes Go.WideShapes Go.ChangeAt Go.RowKit
open Go.ChangeMaps (open_string shut_string)
open Go.Proofs.Ytffhfpdmfegcpaa.base Go.Proofs.Ytffhfpdmfegcpaa.knob Go.Proofs.Ytffhfpdmfegcpaa.flat Go.Proofs.Ytffhfpdmfegcpaa.plru Go.Proofs.Ytffhfpdmfegcpaa.road
set_option linter.unusedVariables false
set_option linter.unusedSimpArgs false

set_option maxHeartbeats 4000000 in
set_option maxRecDepth 100000 in
theorem walk_bad (a b c : Bool) (n k : Int) (w : World) (h : ¬ plruE a b c n = 0) :
    Calls Try.prog 9 #[.agg #[.bool a, .bool b, .bool c], .int .i64 n, .int .i64 k] w (Ret (.bool true) w) := by
  have et : touchE a b c n k = plruE a b c n := by unfold touchE; rw [if_neg h]
  have ea : touchA a b c n k = false := by unfold touchA; rw [et, if_neg h]
  have eb : touchB a b c n k = false := by unfold touchB; rw [et, if_neg h]
  have ec : touchC a b c n k = false := by unfold touchC; rw [et, if_neg h]
  have ev : victimV a b c n = 0 := if_neg h
  have h' : (plruE a b c n != 0) = true := by simpa using h
  clear h
  go_enter Try.func9, Try.ntmps9
  go_wp2_with (first
    | (go_at_call 32; refine (touch_any _ _ _ _ _ _).mono ?_; rintro e w1 ⟨rfl, hb1⟩; obtain ⟨l1, d1, rfl⟩ := later_of hb1; clear hb1)
    | (go_at_call 33; refine (victim_any _ _ _ _ _).mono ?_; rintro e w1 ⟨rfl, hb1⟩; obtain ⟨l1, d1, rfl⟩ := later_of hb1; clear hb1)
    | (go_at_call 35; refine (check_any _ _ _ _ _).mono ?_; rintro e w1 ⟨rfl, hb1⟩; obtain ⟨l1, d1, rfl⟩ := later_of hb1; clear hb1)
    | (go_at_call 34; refine (fault_any _ _ _ _ _).mono ?_; rintro e w1 ⟨rfl, hb1⟩; obtain ⟨l1, d1, rfl⟩ := later_of hb1; clear hb1))
  go_ret
  exact ⟨rfl, by repeat (first | exact Below.refl _ _ | apply bs_later | apply bs_alloc | apply bs_drew | apply bs_drewN)⟩

set_option maxHeartbeats 4000000 in
set_option maxRecDepth 100000 in
theorem walk_out (a b c : Bool) (N : Nat) (k : Int) (w : World) (h : plruE a b c N = 0) (hk : k < 0 ∨ (N : Int) ≤ k) :
    Calls Try.prog 9 #[.agg #[.bool a, .bool b, .bool c], .int .i64 N, .int .i64 k] w (Ret (.bool true) w) := by
  have et : touchE a b c N k = 4 := by unfold touchE; rw [if_pos h, if_pos hk]
  have ea : touchA a b c N k = false := by unfold touchA; rw [et]; rfl
  have eb : touchB a b c N k = false := by unfold touchB; rw [et]; rfl
  have ec : touchC a b c N k = false := by unfold touchC; rw [et]; rfl
  have hn := good_n h
  have PV := fun w => victimOf_any a b c N w (by omega) (by omega)
  rw [scan_is h] at PV
  have HV := Lib.hid PV
  have hn1 : (1 : Int) ≤ N := by omega
  have hn4 : (N : Int) ≤ 4 := by omega
  clear PV hn
  rcases hk with hk | hk
  case' inr => have hk0 : ¬ k < 0 := by omega
  all_goals
    go_enter Try.func9, Try.ntmps9
    go_wp2_with (first
      | (go_at_call 32; refine (touch_any _ _ _ _ _ _).mono ?_; rintro e w1 ⟨rfl, hb1⟩; obtain ⟨l1, d1, rfl⟩ := later_of hb1; clear hb1)
      | (go_at_call 33; refine (victim_any _ _ _ _ _).mono ?_; rintro e w1 ⟨rfl, hb1⟩; obtain ⟨l1, d1, rfl⟩ := later_of hb1; clear hb1)
      | (go_at_call 35; refine (check_any _ _ _ _ _).mono ?_; rintro e w1 ⟨rfl, hb1⟩; obtain ⟨l1, d1, rfl⟩ := later_of hb1; clear hb1)
      | (go_at_call 36; refine (HV.out _).mono ?_; rintro e w1 ⟨rfl, hb1⟩; obtain ⟨l1, d1, rfl⟩ := later_of hb1; clear hb1)
      | (go_at_call 34; refine (fault_any _ _ _ _ _).mono ?_; rintro e w1 ⟨rfl, hb1⟩; obtain ⟨l1, d1, rfl⟩ := later_of hb1; clear hb1))
    go_ret
    exact ⟨rfl, by repeat (first | exact Below.refl _ _ | apply bs_later | apply bs_alloc | apply bs_drew | apply bs_drewN)⟩

set_option maxHeartbeats 4000000 in
set_option maxRecDepth 100000 in
theorem walk_in (a b c : Bool) (N : Nat) (k : Int) (w : World) (h : plruE a b c N = 0) (h0 : 0 ≤ k) (hk : k < (N : Int)) :
    Calls Try.prog 9 #[.agg #[.bool a, .bool b, .bool c], .int .i64 N, .int .i64 k] w (Ret (.bool true) w) := by
  have et : touchE a b c N k = 0 := by unfold touchE; rw [if_pos h, if_neg (by omega)]
  have hn := good_n h
  have PV := fun w => victimOf_any a b c N w (by omega) (by omega)
  rw [scan_is h] at PV
  have PT := fun w => touched_any a b c N k w (by omega)
  obtain ⟨e1, e2, e3⟩ := touched_is h h0 hk
  rw [e1, e2, e3] at PT
  have HV := Lib.hid PV
  have HT := Lib.hid PT
  have hn1 : (1 : Int) ≤ N := by omega
  have hn4 : (N : Int) ≤ 4 := by omega
  have HQ : ∀ w, (Op.equalIn 10000 54 (.agg #[.bool (touchA a b c N k), .bool (touchB a b c N k), .bool (touchC a b c N k)]) (.agg #[.bool (touchA a b c N k), .bool (touchB a b c N k), .bool (touchC a b c N k)])).run Try.prog w = .ok true w := fun w => by
    rw [run_eq_tree, same.eqv_true rfl]
  have PC := fun w => touch_any a b c N k w
  have HC := Lib.hid PC
  generalize touchA a b c N k = ta at *
  generalize touchB a b c N k = tb at *
  generalize touchC a b c N k = tc at *
  clear PV PT PC hn e1 e2 e3
  go_enter Try.func9, Try.ntmps9
  go_wp2_with (first
    | (go_at_call 32; refine (HC.out _).mono ?_; rintro e w1 ⟨rfl, hb1⟩; obtain ⟨l1, d1, rfl⟩ := later_of hb1; clear hb1)
    | (go_at_call 33; refine (victim_any _ _ _ _ _).mono ?_; rintro e w1 ⟨rfl, hb1⟩; obtain ⟨l1, d1, rfl⟩ := later_of hb1; clear hb1)
    | (go_at_call 35; refine (check_any _ _ _ _ _).mono ?_; rintro e w1 ⟨rfl, hb1⟩; obtain ⟨l1, d1, rfl⟩ := later_of hb1; clear hb1)
    | (go_at_call 36; refine (HV.out _).mono ?_; rintro e w1 ⟨rfl, hb1⟩; obtain ⟨l1, d1, rfl⟩ := later_of hb1; clear hb1)
    | (go_at_call 34; refine (fault_any _ _ _ _ _).mono ?_; rintro e w1 ⟨rfl, hb1⟩; obtain ⟨l1, d1, rfl⟩ := later_of hb1; clear hb1))
  go_region_with (go_at_call 37; refine (HT.out _).mono ?_; rintro e w1 ⟨rfl, hb1⟩; obtain ⟨l9, d9, rfl⟩ := later_of hb1; clear hb1)
  all_goals
    go_wp2
    go_ret
    exact ⟨rfl, by repeat (first | exact Below.refl _ _ | apply bs_later | apply bs_alloc | apply bs_drew | apply bs_drewN)⟩

theorem walk (a b c : Bool) (n k : Int) (w : World) (wn : (Lit.int .i64 n).wf = true) (wk : (Lit.int .i64 k).wf = true) :
    Calls Try.prog 9 #[.agg #[.bool a, .bool b, .bool c], .int .i64 n, .int .i64 k] w (Ret (.bool true) w) := by
  by_cases h : plruE a b c n = 0
  · have hn := good_n h
    obtain ⟨N, rfl⟩ := Int.eq_ofNat_of_zero_le (show 0 ≤ n by omega)
    by_cases hk : k < 0 ∨ (N : Int) ≤ k
    · exact walk_out a b c N k w h hk
    · exact walk_in a b c N k w h (by omega) (by omega)
  · exact walk_bad a b c n k w h

-- the frame, by program
set_option maxRecDepth 100000 in
theorem lifted (os : Os) (started : os.Started) (H : Type) (enc : TypeId × Value → H) :
    ReturnsInHanded {} Try.checked os 9 .any (Rows.plruTellsSpec.pre6 enc Try.prog Try.f9 Rows.plruTellsRow.domain false) (Rows.plruTellsSpec.post enc Try.prog Try.f9 false true false false) := by
  refine returnsInHanded_of_change (C := Try.checked) own started (by kernel_rfl) Try.func9
    (ChangeSpec.witness6 (enc := enc) (C := Try.checked) false ⟨#[], #[.agg #[.bool false, .bool false, .bool false], .int .i64 0, .int .i64 0], []⟩ 8 (by kernel_rfl) (by kernel_rfl) (by kernel_rfl) (by kernel_rfl)) ?_
  intro W base args ds gs before hval0 hW hcnd _
  have hval : ∀ (j : Nat) t v, Try.f9.params[j]? = some t → args[j]? = some v → Value.okWide Try.prog W .any base t v := hval0
  have hW' := hW
  obtain ⟨p, q, hA0, hV, rfl, hfz, hnd⟩ := hW
  have hA : DataW.TrodAll enc Try.prog W 0 (fun _ => true) true Try.f9.params.toList args.toList ds p := hA0
  rw [Try.params9] at hA hval
  obtain ⟨v0, vs0, d0, ds0, p0, q0, hargs, rfl, rfl, h0, r0⟩ := trodAll_cons hA
  obtain ⟨v1, vs1, d1, ds1, p1, q1, rfl, rfl, rfl, h1, r1⟩ := trodAll_cons r0
  obtain ⟨v2, vs2, d2, ds2, p2, q2, rfl, rfl, rfl, h2, r2⟩ := trodAll_cons r1
  obtain ⟨rfl, rfl, rfl⟩ := trodAll_nil r2
  obtain rfl : args = #[v0, v1, v2] := by cases args; simp_all
  obtain ⟨rfl, rfl⟩ := trodVars_none hV
  have k0 := h0
  have lt0 : ∀ x ∈ p0, x.block < W.heap.size := by obtain ⟨m, hm⟩ := k0; exact DataW.trod_lt m _ _ _ hm
  have k1 := h1
  have lt1 : ∀ x ∈ p1, x.block < W.heap.size := by obtain ⟨m, hm⟩ := k1; exact DataW.trod_lt m _ _ _ hm
  have k2 := h2
  have lt2 : ∀ x ∈ p2, x.block < W.heap.size := by obtain ⟨m, hm⟩ := k2; exact DataW.trod_lt m _ _ _ hm
  obtain ⟨cs0, rfl, al0⟩ := open_flat (n := 4) [.bool, .bool, .bool] (by kernel_rfl) (by kernel_rfl) (.inl ⟨_, Try.underlying54⟩) (hval 0 54 v0 rfl rfl) h0
  obtain ⟨a0x, a0y, a0z, rfl⟩ := all2_tree al0
  obtain ⟨a1, rfl, rfl, rfl, w1⟩ := open_int Try.underlying3 (hval 1 3 v1 rfl rfl) h1
  obtain ⟨a2, rfl, rfl, rfl, w2⟩ := open_int Try.underlying3 (hval 2 3 v2 rfl rfl) h2
  clear hA0 hval0
  refine (walk a0x a0y a0z a1 a2 W w1 w2).mono fun e W' ⟨he, bel⟩ => ?_
  subst he
  exact ⟨_, rfl, _, _, _, [], _, [], hW', trodAll_mk1 (shut_bool Try.underlying4 _), (trodAll_cons_mk (Below.trod laidOut (by kernel_rfl) (of_decide_eq_true (by kernel_rfl)) k0 bel lt0) (trodAll_cons_mk (Below.trod laidOut (by kernel_rfl) (of_decide_eq_true (by kernel_rfl)) k1 bel lt1) (trodAll_cons_mk (Below.trod laidOut (by kernel_rfl) (of_decide_eq_true (by kernel_rfl)) k2 bel lt2) trodAll_mk0))), rfl, bel.frame _, fun h => by cases h⟩

theorem over : Rows.plruTellsRow.holds Try.pinned (OpenSpec.ofChange Rows.plruTellsSpec) :=
  OpenClaim.holds_of_wide 9 Try.f9 rfl rfl rfl rfl rfl rfl rfl ⟨rfl, rfl, rfl, rfl, rfl⟩ rfl rfl rfl rfl rfl (by kernel_rfl) Try.func9 (by kernel_rfl)
    (of_decide_eq_true (by kernel_rfl)) (by unfold Func.isWrapper; first | (rw [if_pos (by decide +kernel)]; kernel_rfl) | (rw [if_neg (by decide +kernel)]; exact ⟨rfl, rfl⟩))
    (fun os started H enc _ => lifted os started H enc)

theorem proved : Rows.PlruTellsSaid := over

end Go.Proofs.Ytffhfpdmfegcpaa.plruTells
