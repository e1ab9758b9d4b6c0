/- ringdovelaw.AddrTells: for every config and four numbers, the call returns true. -/
import Derived.Test.YtffhfpdmfegcpaaRefAddr
namespace Go.Proofs.Ytffhfpdmfegcpaa.addrTells
open Go.ChangeShapes Go.WideShapes Go.ChangeAt Go.RowKit
open Go.ChangeMaps (open_string shut_string)
open Go.Proofs.Ytffhfpdmfegcpaa.base Go.Proofs.Ytffhfpdmfegcpaa.knob Go.Proofs.Ytffhfpdmfegcpaa.flat Go.Proofs.Ytffhfpdmfegcpaa.addr Go.Proofs.Ytffhfpdmfegcpaa.refAddr
set_option linter.unusedVariables false
set_option linter.unusedSimpArgs false

theorem part_a (a : Int) : (spanB a 0 63 = true ∧ lineE a = 0 ∧ (4 * lineQ a + lineR a != a) = false ∧ 0 ≤ lineR a ∧ lineR a ≤ 3 ∧ 0 ≤ lineQ a ∧ lineQ a ≤ 15) ∨ (spanB a 0 63 = false ∧ lineE a = 4 ∧ lineQ a = 0 ∧ lineR a = 0) := by
  by_cases h : 0 ≤ a ∧ a ≤ 63
  · have e1 : lineQ a = a / 4 := if_pos h
    have e2 : lineR a = a % 4 := if_pos h
    refine .inl ⟨spanB_yes h, if_pos h, ?_, ?_, ?_, ?_, ?_⟩
    · rw [e1, e2, bne_eq_false_iff_eq]; omega
    all_goals omega
  · exact .inr ⟨spanB_no (by omega), if_neg h, if_neg h, if_neg h⟩

theorem step_mod {f j n : Int} (hn : 0 < n) : (f + (j + 1)) % n = if (f + j) % n + 1 = n then 0 else (f + j) % n + 1 := by
  have h1 : 0 ≤ (f + j) % n := Int.emod_nonneg _ (by omega)
  have h2 : (f + j) % n < n := Int.emod_lt_of_pos _ hn
  rw [← Int.add_assoc, ← Int.emod_add_emod]
  generalize (f + j) % n = v at *
  split
  · rename_i h; rw [h, Int.emod_self]
  · exact Int.emod_eq_of_lt (by omega) (by omega)

set_option maxHeartbeats 4000000 in
set_option maxRecDepth 100000 in
theorem walk_badcfg (n s y b a l f k : Int) (w : World) (hk : k ≤ 9223372036854775807) (h0 : ¬ CfgOK n s y b) :
    Calls Try.prog 6 #[.agg #[.int .i64 n, .int .i64 s, .int .i64 y, .int .i64 b], .int .i64 a, .int .i64 l, .int .i64 f, .int .i64 k] w (Ret (.bool true) w) := by
  have c := cfgE_bad h0
  have e1 : setV n s y b l = 0 := if_neg (fun h => h0 h.1)
  have e2 : bankV n s y b l = 0 := if_neg (fun h => h0 h.1)
  have e3 : partE n s y b l = 4 := if_neg (fun h => h0 h.1)
  have e4 : nodeV n s y b f k = 0 := if_neg (fun h => h0 h.1)
  have e5 : nodeE n s y b f k = 4 := if_neg (fun h => h0 h.1)
  clear h0
  rcases part_a a with ⟨a1, a2, a3, a4, a5, a6, a7⟩ | ⟨a1, a2, a3, a4⟩
  all_goals
    go_enter Try.func6, Try.ntmps6
    go_wp2_with (first
      | (go_at_call 22; refine (line_any _ _).mono ?_; rintro e w1 ⟨rfl, rfl⟩)
      | (go_at_call 23; refine (set_any _ _ _ _ _ _).mono ?_; rintro e w1 ⟨rfl, hb1⟩; obtain ⟨l1, d1, rfl⟩ := later_of hb1; clear hb1)
      | (go_at_call 24; refine (bank_any _ _ _ _ _ _).mono ?_; rintro e w1 ⟨rfl, hb1⟩; obtain ⟨l1, d1, rfl⟩ := later_of hb1; clear hb1)
      | (go_at_call 25; refine (node_any _ _ _ _ _ _ _ hk).mono ?_; rintro e w1 ⟨rfl, hb1⟩; obtain ⟨l1, d1, rfl⟩ := later_of hb1; clear hb1)
      | (go_at_call 26; refine (goodAddr_any _ _).mono ?_; rintro e w1 ⟨rfl, rfl⟩)
      | (go_at_call 29; refine (goodLine_any _ _).mono ?_; rintro e w1 ⟨rfl, rfl⟩)
      | (go_at_call 27; refine (configFault_any _ _ _ _ _).mono ?_; rintro e w1 ⟨rfl, hb1⟩; obtain ⟨l1, d1, rfl⟩ := later_of hb1; clear hb1)
      | (go_at_call 28; refine (check_any _ _ _ _ _).mono ?_; rintro e w1 ⟨rfl, hb1⟩; obtain ⟨l1, d1, rfl⟩ := later_of hb1; clear hb1))
    go_ret
    exact ⟨rfl, by repeat (first | exact Below.refl _ _ | apply bs_later | apply bs_alloc | apply bs_drew | apply bs_drewN)⟩

theorem part_c {n s y b : Int} (l : Int) (h0 : CfgOK n s y b) : (spanB l 0 15 = true ∧ 0 ≤ l ∧ setV n s y b l = l % s ∧ bankV n s y b l = l % b ∧ partE n s y b l = 0) ∨ (spanB l 0 15 = false ∧ setV n s y b l = 0 ∧ bankV n s y b l = 0 ∧ partE n s y b l = 4) := by
  by_cases h : 0 ≤ l ∧ l ≤ 15
  · exact .inl ⟨spanB_yes h, h.1, if_pos ⟨h0, h⟩, if_pos ⟨h0, h⟩, if_pos ⟨h0, h⟩⟩
  · exact .inr ⟨spanB_no (by omega), if_neg (fun g => h g.2), if_neg (fun g => h g.2), if_neg (fun g => h g.2)⟩

set_option maxHeartbeats 4000000 in
set_option maxRecDepth 100000 in
theorem walk_badnode (n s y b a l f k : Int) (w : World) (hk : k ≤ 9223372036854775807) (h0 : CfgOK n s y b) (hf : f < 0 ∨ (0 ≤ f ∧ n ≤ f) ∨ (0 ≤ f ∧ f < n ∧ k < 0)) :
    Calls Try.prog 6 #[.agg #[.int .i64 n, .int .i64 s, .int .i64 y, .int .i64 b], .int .i64 a, .int .i64 l, .int .i64 f, .int .i64 k] w (Ret (.bool true) w) := by
  have c := cfgE_ok h0
  have e4 : nodeV n s y b f k = 0 := if_neg (fun h => by have := h.2.1; have := h.2.2.1; have := h.2.2.2; omega)
  have e5 : nodeE n s y b f k = 4 := if_neg (fun h => by have := h.2.1; have := h.2.2.1; have := h.2.2.2; omega)
  have P := part_c l h0
  obtain ⟨g1, g2, g3, g4, -, g6, g7, g8, g9⟩ := h0
  rcases part_a a with ⟨a1, a2, a3, a4, a5, a6, a7⟩ | ⟨a1, a2, a3, a4⟩
  all_goals
    rcases P with ⟨c1, c2, c3, c4, c5⟩ | ⟨c1, c2, c3, c4⟩
    all_goals
      rcases hf with f1 | ⟨f1, f2⟩ | ⟨f1, f2, f3⟩
      all_goals
        go_enter Try.func6, Try.ntmps6
        go_wp2_with (first
      | (go_at_call 22; refine (line_any _ _).mono ?_; rintro e w1 ⟨rfl, rfl⟩)
      | (go_at_call 23; refine (set_any _ _ _ _ _ _).mono ?_; rintro e w1 ⟨rfl, hb1⟩; obtain ⟨l1, d1, rfl⟩ := later_of hb1; clear hb1)
      | (go_at_call 24; refine (bank_any _ _ _ _ _ _).mono ?_; rintro e w1 ⟨rfl, hb1⟩; obtain ⟨l1, d1, rfl⟩ := later_of hb1; clear hb1)
      | (go_at_call 25; refine (node_any _ _ _ _ _ _ _ hk).mono ?_; rintro e w1 ⟨rfl, hb1⟩; obtain ⟨l1, d1, rfl⟩ := later_of hb1; clear hb1)
      | (go_at_call 26; refine (goodAddr_any _ _).mono ?_; rintro e w1 ⟨rfl, rfl⟩)
      | (go_at_call 29; refine (goodLine_any _ _).mono ?_; rintro e w1 ⟨rfl, rfl⟩)
      | (go_at_call 27; refine (configFault_any _ _ _ _ _).mono ?_; rintro e w1 ⟨rfl, hb1⟩; obtain ⟨l1, d1, rfl⟩ := later_of hb1; clear hb1)
      | (go_at_call 28; refine (check_any _ _ _ _ _).mono ?_; rintro e w1 ⟨rfl, hb1⟩; obtain ⟨l1, d1, rfl⟩ := later_of hb1; clear hb1))
        go_ret
        exact ⟨rfl, by repeat (first | exact Below.refl _ _ | apply bs_later | apply bs_alloc | apply bs_drew | apply bs_drewN)⟩

set_option maxHeartbeats 4000000 in
set_option maxRecDepth 100000 in
theorem walk_good (n s y b a l f k : Int) (w : World) (hk : k ≤ 9223372036854775807) (h0 : CfgOK n s y b) (f1 : 0 ≤ f) (f2 : f < n) (f3 : 0 ≤ k) :
    Calls Try.prog 6 #[.agg #[.int .i64 n, .int .i64 s, .int .i64 y, .int .i64 b], .int .i64 a, .int .i64 l, .int .i64 f, .int .i64 k] w (Ret (.bool true) w) := by
  have c := cfgE_ok h0
  have P := part_c l h0
  have e4 : nodeV n s y b f k = (f + k % n) % n := if_pos ⟨h0, f1, by omega, f3⟩
  have e5 : nodeE n s y b f k = 0 := if_pos ⟨h0, f1, by omega, f3⟩
  obtain ⟨g1, g2, g3, g4, -, g6, g7, g8, g9⟩ := h0
  have hf0 := Lib.hid (Int.emod_eq_of_lt f1 f2)
  obtain ⟨m, hm⟩ : ∃ m : Nat, k % n = (m : Int) := ⟨(k % n).toNat, by have := Int.emod_nonneg k (show n ≠ 0 by omega); omega⟩
  have hm8 : (m : Int) < n := by rw [← hm]; exact Int.emod_lt_of_pos k (by omega)
  rw [hm] at e4
  obtain ⟨v, hv⟩ : ∃ v, (f + (m : Int)) % n = v := ⟨_, rfl⟩
  have HV := Lib.hid hv
  rw [hv] at e4
  clear hv
  rcases part_a a with ⟨a1, a2, a3, a4, a5, a6, a7⟩ | ⟨a1, a2, a3, a4⟩
  all_goals
    rcases P with ⟨c1, c2, c3, c4, c5⟩ | ⟨c1, c2, c3, c4⟩
    all_goals
      go_enter Try.func6, Try.ntmps6
      go_wp2_with (first
      | (go_at_call 22; refine (line_any _ _).mono ?_; rintro e w1 ⟨rfl, rfl⟩)
      | (go_at_call 23; refine (set_any _ _ _ _ _ _).mono ?_; rintro e w1 ⟨rfl, hb1⟩; obtain ⟨l1, d1, rfl⟩ := later_of hb1; clear hb1)
      | (go_at_call 24; refine (bank_any _ _ _ _ _ _).mono ?_; rintro e w1 ⟨rfl, hb1⟩; obtain ⟨l1, d1, rfl⟩ := later_of hb1; clear hb1)
      | (go_at_call 25; refine (node_any _ _ _ _ _ _ _ hk).mono ?_; rintro e w1 ⟨rfl, hb1⟩; obtain ⟨l1, d1, rfl⟩ := later_of hb1; clear hb1)
      | (go_at_call 26; refine (goodAddr_any _ _).mono ?_; rintro e w1 ⟨rfl, rfl⟩)
      | (go_at_call 29; refine (goodLine_any _ _).mono ?_; rintro e w1 ⟨rfl, rfl⟩)
      | (go_at_call 27; refine (configFault_any _ _ _ _ _).mono ?_; rintro e w1 ⟨rfl, hb1⟩; obtain ⟨l1, d1, rfl⟩ := later_of hb1; clear hb1)
      | (go_at_call 28; refine (check_any _ _ _ _ _).mono ?_; rintro e w1 ⟨rfl, hb1⟩; obtain ⟨l1, d1, rfl⟩ := later_of hb1; clear hb1))
      go_loop [23, 181] (fun t i => ∃ (j : Nat) (u : Int), j ≤ m ∧ i = .int .i64 j ∧ t = .int .i64 u ∧ 0 ≤ u ∧ u < n ∧ Hid (u = (f + (j : Int)) % n)) (fun _ i => m - (intOf i).toNat)
      case atStart => exact ⟨0, f, by omega, rfl, rfl, f1, f2, Lib.hid (by rw [Int.natCast_zero, Int.add_zero]; exact hf0.out.symm)⟩
      case round =>
        obtain ⟨j, u, hj, rfl, rfl, u1, u2, HU⟩ := hrel
        by_cases hlt : j < m
        · by_cases hu : u + 1 = n
          · have hu' : (u + 1 == n) = true := by simpa using hu
            have HN := Lib.hid hu
            clear hu
            go_wp2
            go_round
            case rel => exact ⟨j + 1, 0, by omega, by go_num, rfl, by omega, by omega, Lib.hid (by have h1 := HU.out; have h2 := HN.out; rw [Int.natCast_add, Int.natCast_one, step_mod (by omega), ← h1, if_pos h2])⟩
            case measure => simp [intOf]; omega
          · have hu' : (u + 1 == n) = false := by simpa using hu
            have HN := Lib.hid hu
            have hu3 : u + 1 < n := by omega
            clear hu
            go_wp2
            go_round
            case rel => exact ⟨j + 1, u + 1, by omega, by go_num, rfl, by omega, by omega, Lib.hid (by have h1 := HU.out; have h2 := HN.out; rw [Int.natCast_add, Int.natCast_one, step_mod (by omega), ← h1, if_neg h2])⟩
            case measure => simp [intOf]; omega
        · obtain rfl : j = m := by omega
          have hvu : (v == u) = true := by rw [beq_iff_eq, HU.out, ← HV.out]
          go_wp2
          go_ret
          exact ⟨rfl, by repeat (first | exact Below.refl _ _ | apply bs_later | apply bs_alloc | apply bs_drew | apply bs_drewN)⟩

theorem walk (n s y b a l f k : Int) (w : World) (wn : (Lit.int .i64 n).wf = true) (ws : (Lit.int .i64 s).wf = true) (wy : (Lit.int .i64 y).wf = true) (wb : (Lit.int .i64 b).wf = true)
    (wa : (Lit.int .i64 a).wf = true) (wl : (Lit.int .i64 l).wf = true) (wf : (Lit.int .i64 f).wf = true) (wk : (Lit.int .i64 k).wf = true) :
    Calls Try.prog 6 #[.agg #[.int .i64 n, .int .i64 s, .int .i64 y, .int .i64 b], .int .i64 a, .int .i64 l, .int .i64 f, .int .i64 k] w (Ret (.bool true) w) := by
  have hk := (bounds_i64 wk).2
  by_cases h : CfgOK n s y b
  · by_cases h1 : 0 ≤ f ∧ f < n ∧ 0 ≤ k
    · exact walk_good n s y b a l f k w hk h h1.1 h1.2.1 h1.2.2
    · exact walk_badnode n s y b a l f k w hk h (by omega)
  · exact walk_badcfg n s y b a l f k w hk h

-- the frame, by program
set_option maxRecDepth 100000 in
theorem lifted (os : Os) (started : os.Started) (H : Type) (enc : TypeId × Value → H) :
    ReturnsInHanded {} Try.checked os 6 .any (Rows.addrTellsSpec.pre6 enc Try.prog Try.f6 Rows.addrTellsRow.domain false) (Rows.addrTellsSpec.post enc Try.prog Try.f6 false true false false) := by
  refine returnsInHanded_of_change (C := Try.checked) own started (by kernel_rfl) Try.func6
    (ChangeSpec.witness6 (enc := enc) (C := Try.checked) false ⟨#[], #[.agg #[.int .i64 0, .int .i64 0, .int .i64 0, .int .i64 0], .int .i64 0, .int .i64 0, .int .i64 0, .int .i64 0], []⟩ 8 (by kernel_rfl) (by kernel_rfl) (by kernel_rfl) (by kernel_rfl)) ?_
  intro W base args ds gs before hval0 hW hcnd _
  have hval : ∀ (j : Nat) t v, Try.f6.params[j]? = some t → args[j]? = some v → Value.okWide Try.prog W .any base t v := hval0
  have hW' := hW
  obtain ⟨p, q, hA0, hV, rfl, hfz, hnd⟩ := hW
  have hA : DataW.TrodAll enc Try.prog W 0 (fun _ => true) true Try.f6.params.toList args.toList ds p := hA0
  rw [Try.params6] at hA hval
  obtain ⟨v0, vs0, d0, ds0, p0, q0, hargs, rfl, rfl, h0, r0⟩ := trodAll_cons hA
  obtain ⟨v1, vs1, d1, ds1, p1, q1, rfl, rfl, rfl, h1, r1⟩ := trodAll_cons r0
  obtain ⟨v2, vs2, d2, ds2, p2, q2, rfl, rfl, rfl, h2, r2⟩ := trodAll_cons r1
  obtain ⟨v3, vs3, d3, ds3, p3, q3, rfl, rfl, rfl, h3, r3⟩ := trodAll_cons r2
  obtain ⟨v4, vs4, d4, ds4, p4, q4, rfl, rfl, rfl, h4, r4⟩ := trodAll_cons r3
  obtain ⟨rfl, rfl, rfl⟩ := trodAll_nil r4
  obtain rfl : args = #[v0, v1, v2, v3, v4] := by cases args; simp_all
  obtain ⟨rfl, rfl⟩ := trodVars_none hV
  have k0 := h0
  have lt0 : ∀ x ∈ p0, x.block < W.heap.size := by obtain ⟨m, hm⟩ := k0; exact DataW.trod_lt m _ _ _ hm
  have k1 := h1
  have lt1 : ∀ x ∈ p1, x.block < W.heap.size := by obtain ⟨m, hm⟩ := k1; exact DataW.trod_lt m _ _ _ hm
  have k2 := h2
  have lt2 : ∀ x ∈ p2, x.block < W.heap.size := by obtain ⟨m, hm⟩ := k2; exact DataW.trod_lt m _ _ _ hm
  have k3 := h3
  have lt3 : ∀ x ∈ p3, x.block < W.heap.size := by obtain ⟨m, hm⟩ := k3; exact DataW.trod_lt m _ _ _ hm
  have k4 := h4
  have lt4 : ∀ x ∈ p4, x.block < W.heap.size := by obtain ⟨m, hm⟩ := k4; exact DataW.trod_lt m _ _ _ hm
  obtain ⟨cs0, rfl, al0⟩ := open_flat (n := 4) [.int .i64, .int .i64, .int .i64, .int .i64] (by kernel_rfl) (by kernel_rfl) (.inl ⟨_, Try.underlying42⟩) (hval 0 42 v0 rfl rfl) h0
  obtain ⟨a0x, a0y, a0z, a0u, rfl, w0x, w0y, w0z, w0u⟩ := all2_cfg al0
  obtain ⟨a1, rfl, rfl, rfl, w1⟩ := open_int Try.underlying3 (hval 1 3 v1 rfl rfl) h1
  obtain ⟨a2, rfl, rfl, rfl, w2⟩ := open_int Try.underlying3 (hval 2 3 v2 rfl rfl) h2
  obtain ⟨a3, rfl, rfl, rfl, w3⟩ := open_int Try.underlying3 (hval 3 3 v3 rfl rfl) h3
  obtain ⟨a4, rfl, rfl, rfl, w4⟩ := open_int Try.underlying3 (hval 4 3 v4 rfl rfl) h4
  clear hA0 hval0
  refine (walk a0x a0y a0z a0u a1 a2 a3 a4 W w0x w0y w0z w0u w1 w2 w3 w4).mono fun e W' ⟨he, bel⟩ => ?_
  subst he
  exact ⟨_, rfl, _, _, _, [], _, [], hW', trodAll_mk1 (shut_bool Try.underlying4 _), (trodAll_cons_mk (Below.trod laidOut (by kernel_rfl) (of_decide_eq_true (by kernel_rfl)) k0 bel lt0) (trodAll_cons_mk (Below.trod laidOut (by kernel_rfl) (of_decide_eq_true (by kernel_rfl)) k1 bel lt1) (trodAll_cons_mk (Below.trod laidOut (by kernel_rfl) (of_decide_eq_true (by kernel_rfl)) k2 bel lt2) (trodAll_cons_mk (Below.trod laidOut (by kernel_rfl) (of_decide_eq_true (by kernel_rfl)) k3 bel lt3) (trodAll_cons_mk (Below.trod laidOut (by kernel_rfl) (of_decide_eq_true (by kernel_rfl)) k4 bel lt4) trodAll_mk0))))), rfl, bel.frame _, fun h => by cases h⟩

theorem over : Rows.addrTellsRow.holds Try.pinned (OpenSpec.ofChange Rows.addrTellsSpec) :=
  OpenClaim.holds_of_wide 6 Try.f6 rfl rfl rfl rfl rfl rfl rfl ⟨rfl, rfl, rfl, rfl, rfl⟩ rfl rfl rfl rfl rfl (by kernel_rfl) Try.func6 (by kernel_rfl)
    (of_decide_eq_true (by kernel_rfl)) (by unfold Func.isWrapper; first | (rw [if_pos (by decide +kernel)]; kernel_rfl) | (rw [if_neg (by decide +kernel)]; exact ⟨rfl, rfl⟩))
    (fun os started H enc _ => lifted os started H enc)

theorem proved : Rows.AddrTellsSaid := over

end Go.Proofs.Ytffhfpdmfegcpaa.addrTells
