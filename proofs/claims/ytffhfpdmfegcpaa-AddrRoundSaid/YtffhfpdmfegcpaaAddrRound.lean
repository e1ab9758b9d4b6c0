/- ringdovekeep.AddrRound: for every config, node and two numbers, the call returns true. -/
import Derived.Test.YtffhfpdmfegcpaaAddr
import Derived.Test.YtffhfpdmfegcpaaGood
namespace Go.Proofs.Ytffhfpdmfegcpaa.addrRound
open Go.ChangeShapes Go.WideShapes Go.ChangeAt Go.RowKit
open Go.ChangeMaps (open_string shut_string)
open Go.Proofs.Ytffhfpdmfegcpaa.base Go.Proofs.Ytffhfpdmfegcpaa.knob Go.Proofs.Ytffhfpdmfegcpaa.flat Go.Proofs.Ytffhfpdmfegcpaa.addr
set_option linter.unusedVariables false
set_option linter.unusedSimpArgs false

set_option maxRecDepth 100000 in
theorem addrs (w : World) : Calls Try.prog 30 #[] w (Ret (.bool true) w) := by
  have e1 : lineQ 7 = 1 := rfl
  have e2 : lineR 7 = 3 := rfl
  have e3 : lineE 7 = 0 := rfl
  go_enter Try.func30, Try.ntmps30
  go_wp2_with (go_at_call 22; refine (line_any _ _).mono ?_; rintro e w1 ⟨rfl, rfl⟩)
  go_ret
  exact ⟨rfl, by repeat (first | exact Below.refl _ _ | apply bs_later | apply bs_alloc | apply bs_drew | apply bs_drewN)⟩

theorem three_ok {w : World} {n : Nat} (h : n = w.heap.size) : ∀ i, i < 3 → (w.alloc (.cells #[.int .i64 0, .int .i64 0, .int .i64 0] 22)).cell? ⟨n, i, none⟩ = some (.int .i64 0) := by
  intro i hi
  rw [World.cell?_alloc_at _ _ _ _ h]
  obtain rfl | rfl | rfl : i = 0 ∨ i = 1 ∨ i = 2 := by omega
  all_goals rfl

theorem node_bad {n s y b f k : Int} (h : ¬ NodeOK n s y b f k) : nodeV n s y b f k = 0 ∧ nodeE n s y b f k = 4 := ⟨if_neg h, if_neg h⟩
theorem node_ok {n s y b f k : Int} (h : NodeOK n s y b f k) : nodeV n s y b f k = (f + k % n) % n ∧ nodeE n s y b f k = 0 := ⟨if_pos h, if_pos h⟩

set_option maxHeartbeats 1000000 in
set_option maxRecDepth 100000 in
theorem walk_bad (n s y b f p q : Int) (w : World) (hn : n ≤ 9223372036854775807) (h : ¬ NodeOK n s y b f n) :
    Calls Try.prog 7 #[.agg #[.int .i64 n, .int .i64 s, .int .i64 y, .int .i64 b], .int .i64 f, .int .i64 p, .int .i64 q] w (Ret (.bool true) w) := by
  obtain ⟨e1, e2⟩ := node_bad h
  clear h
  go_enter Try.func7, Try.ntmps7
  go_wp2_with (first
    | (go_at_call 30; refine (addrs _).mono ?_; rintro e w1 ⟨rfl, hb1⟩; obtain ⟨l1, d1, rfl⟩ := later_of hb1; clear hb1)
    | (go_at_call 25; refine (node_any _ _ _ _ _ _ _ hn).mono ?_; rintro e w1 ⟨rfl, hb1⟩; obtain ⟨l1, d1, rfl⟩ := later_of hb1; clear hb1))
  go_ret
  exact ⟨rfl, by repeat (first | exact Below.refl _ _ | apply bs_later | apply bs_alloc | apply bs_drew | apply bs_drewN)⟩

set_option maxHeartbeats 1000000 in
set_option maxRecDepth 100000 in
theorem walk_out (n s y b f p q : Int) (w : World) (h : NodeOK n s y b f n) (hpq : p < 0 ∨ (0 ≤ p ∧ q < 0) ∨ (0 ≤ p ∧ 0 ≤ q ∧ 1099511627776 < p) ∨ (0 ≤ p ∧ 0 ≤ q ∧ p ≤ 1099511627776 ∧ 1099511627776 < q)) :
    Calls Try.prog 7 #[.agg #[.int .i64 n, .int .i64 s, .int .i64 y, .int .i64 b], .int .i64 f, .int .i64 p, .int .i64 q] w (Ret (.bool true) w) := by
  obtain ⟨e1, e2⟩ := node_ok h
  have hn : n ≤ 9223372036854775807 := by unfold NodeOK CfgOK at h; omega
  have e3 : nodeV n s y b f n = f := by
    rw [e1, Int.emod_self, Int.add_zero]
    exact Int.emod_eq_of_lt h.2.1 (by unfold NodeOK at h; omega)
  clear e1 h
  rcases hpq with h1 | ⟨h1, h2⟩ | ⟨h1, h2, h3⟩ | ⟨h1, h2, h3, h4⟩
  all_goals
    go_enter Try.func7, Try.ntmps7
    go_wp2_with (first
      | (go_at_call 30; refine (addrs _).mono ?_; rintro e w1 ⟨rfl, hb1⟩; obtain ⟨l1, d1, rfl⟩ := later_of hb1; clear hb1)
      | (go_at_call 25; refine (node_any _ _ _ _ _ _ _ hn).mono ?_; rintro e w1 ⟨rfl, hb1⟩; obtain ⟨l1, d1, rfl⟩ := later_of hb1; clear hb1))
    go_ret
    exact ⟨rfl, by repeat (first | exact Below.refl _ _ | apply bs_later | apply bs_alloc | apply bs_drew | apply bs_drewN)⟩

set_option maxHeartbeats 1000000 in
set_option maxRecDepth 100000 in
theorem walk_in (n s y b f p q : Int) (w : World) (h : NodeOK n s y b f n) (h1 : 0 ≤ p) (h2 : 0 ≤ q) (h3 : p ≤ 1099511627776) (h4 : q ≤ 1099511627776) :
    Calls Try.prog 7 #[.agg #[.int .i64 n, .int .i64 s, .int .i64 y, .int .i64 b], .int .i64 f, .int .i64 p, .int .i64 q] w (Ret (.bool true) w) := by
  obtain ⟨e1, e2⟩ := node_ok h
  have hn : n ≤ 9223372036854775807 := by unfold NodeOK CfgOK at h; omega
  have hn0 : 0 < n := by unfold NodeOK CfgOK at h; omega
  have e3 : nodeV n s y b f n = f := by
    rw [e1, Int.emod_self, Int.add_zero]
    exact Int.emod_eq_of_lt h.2.1 (by unfold NodeOK at h; omega)
  obtain ⟨f1, f2⟩ := node_ok (k := p) ⟨h.1, h.2.1, h.2.2.1, h1⟩
  have hy1 : 0 ≤ (f + p % n) % n := Int.emod_nonneg _ (by omega)
  have hy2 : (f + p % n) % n < n := Int.emod_lt_of_pos _ hn0
  obtain ⟨g1, g2⟩ := node_ok (f := nodeV n s y b f p) (k := q) ⟨h.1, by rw [f1]; exact hy1, by rw [f1]; omega, h2⟩
  obtain ⟨k1, k2⟩ := node_ok (k := p + q) ⟨h.1, h.2.1, h.2.2.1, by omega⟩
  have fin : nodeV n s y b (nodeV n s y b f p) q = nodeV n s y b f (p + q) := by
    rw [g1, k1, f1]
    simp only [Int.emod_add_emod, Int.add_emod_emod, Int.add_assoc]
  clear e1 f1 g1 k1 h hy1 hy2
  go_enter Try.func7, Try.ntmps7
  go_wp2_with (first
    | (go_at_call 30; refine (addrs _).mono ?_; rintro e w1 ⟨rfl, hb1⟩; obtain ⟨l1, d1, rfl⟩ := later_of hb1; clear hb1)
    | (go_at_call 25; refine (node_any _ _ _ _ _ _ _ (by omega)).mono ?_; rintro e w1 ⟨rfl, hb1⟩; obtain ⟨l1, d1, rfl⟩ := later_of hb1; clear hb1)
    | (go_at_call 21; refine (goods.good_ok _ _ _ _ (by decide) (three_ok (by simp))).mono ?_; rintro e w1 ⟨rfl, rfl⟩))
  go_ret
  exact ⟨rfl, by repeat (first | exact Below.refl _ _ | apply bs_later | apply bs_alloc | apply bs_drew | apply bs_drewN)⟩

theorem walk (n s y b f p q : Int) (w : World) (wn : (Lit.int .i64 n).wf = true) (ws : (Lit.int .i64 s).wf = true) (wy : (Lit.int .i64 y).wf = true) (wb : (Lit.int .i64 b).wf = true)
    (wf : (Lit.int .i64 f).wf = true) (wp : (Lit.int .i64 p).wf = true) (wq : (Lit.int .i64 q).wf = true) :
    Calls Try.prog 7 #[.agg #[.int .i64 n, .int .i64 s, .int .i64 y, .int .i64 b], .int .i64 f, .int .i64 p, .int .i64 q] w (Ret (.bool true) w) := by
  by_cases h : NodeOK n s y b f n
  · by_cases h1 : 0 ≤ p ∧ 0 ≤ q ∧ p ≤ 1099511627776 ∧ q ≤ 1099511627776
    · exact walk_in n s y b f p q w h h1.1 h1.2.1 h1.2.2.1 h1.2.2.2
    · exact walk_out n s y b f p q w h (by omega)
  · exact walk_bad n s y b f p q w (bounds_i64 wn).2 h

-- the frame, by program
set_option maxRecDepth 100000 in
theorem lifted (os : Os) (started : os.Started) (H : Type) (enc : TypeId × Value → H) :
    ReturnsInHanded {} Try.checked os 7 .any (Rows.addrRoundSpec.pre6 enc Try.prog Try.f7 Rows.addrRoundRow.domain false) (Rows.addrRoundSpec.post enc Try.prog Try.f7 false true false false) := by
  refine returnsInHanded_of_change (C := Try.checked) own started (by kernel_rfl) Try.func7
    (ChangeSpec.witness6 (enc := enc) (C := Try.checked) false ⟨#[], #[.agg #[.int .i64 0, .int .i64 0, .int .i64 0, .int .i64 0], .int .i64 0, .int .i64 0, .int .i64 0], []⟩ 8 (by kernel_rfl) (by kernel_rfl) (by kernel_rfl) (by kernel_rfl)) ?_
  intro W base args ds gs before hval0 hW hcnd _
  have hval : ∀ (j : Nat) t v, Try.f7.params[j]? = some t → args[j]? = some v → Value.okWide Try.prog W .any base t v := hval0
  have hW' := hW
  obtain ⟨p, q, hA0, hV, rfl, hfz, hnd⟩ := hW
  have hA : DataW.TrodAll enc Try.prog W 0 (fun _ => true) true Try.f7.params.toList args.toList ds p := hA0
  rw [Try.params7] at hA hval
  obtain ⟨v0, vs0, d0, ds0, p0, q0, hargs, rfl, rfl, h0, r0⟩ := trodAll_cons hA
  obtain ⟨v1, vs1, d1, ds1, p1, q1, rfl, rfl, rfl, h1, r1⟩ := trodAll_cons r0
  obtain ⟨v2, vs2, d2, ds2, p2, q2, rfl, rfl, rfl, h2, r2⟩ := trodAll_cons r1
  obtain ⟨v3, vs3, d3, ds3, p3, q3, rfl, rfl, rfl, h3, r3⟩ := trodAll_cons r2
  obtain ⟨rfl, rfl, rfl⟩ := trodAll_nil r3
  obtain rfl : args = #[v0, v1, v2, v3] := by cases args; simp_all
  obtain ⟨rfl, rfl⟩ := trodVars_none hV
  have k0 := h0
  have lt0 : ∀ x ∈ p0, x.block < W.heap.size := by obtain ⟨m, hm⟩ := k0; exact DataW.trod_lt m _ _ _ hm
  have k1 := h1
  have lt1 : ∀ x ∈ p1, x.block < W.heap.size := by obtain ⟨m, hm⟩ := k1; exact DataW.trod_lt m _ _ _ hm
  have k2 := h2
  have lt2 : ∀ x ∈ p2, x.block < W.heap.size := by obtain ⟨m, hm⟩ := k2; exact DataW.trod_lt m _ _ _ hm
  have k3 := h3
  have lt3 : ∀ x ∈ p3, x.block < W.heap.size := by obtain ⟨m, hm⟩ := k3; exact DataW.trod_lt m _ _ _ hm
  obtain ⟨cs0, rfl, al0⟩ := open_flat (n := 4) [.int .i64, .int .i64, .int .i64, .int .i64] (by kernel_rfl) (by kernel_rfl) (.inl ⟨_, Try.underlying42⟩) (hval 0 42 v0 rfl rfl) h0
  obtain ⟨a0x, a0y, a0z, a0u, rfl, w0x, w0y, w0z, w0u⟩ := all2_cfg al0
  obtain ⟨a1, rfl, rfl, rfl, w1⟩ := open_int Try.underlying3 (hval 1 3 v1 rfl rfl) h1
  obtain ⟨a2, rfl, rfl, rfl, w2⟩ := open_int Try.underlying3 (hval 2 3 v2 rfl rfl) h2
  obtain ⟨a3, rfl, rfl, rfl, w3⟩ := open_int Try.underlying3 (hval 3 3 v3 rfl rfl) h3
  clear hA0 hval0
  refine (walk a0x a0y a0z a0u a1 a2 a3 W w0x w0y w0z w0u w1 w2 w3).mono fun e W' ⟨he, bel⟩ => ?_
  subst he
  exact ⟨_, rfl, _, _, _, [], _, [], hW', trodAll_mk1 (shut_bool Try.underlying4 _), (trodAll_cons_mk (Below.trod laidOut (by kernel_rfl) (of_decide_eq_true (by kernel_rfl)) k0 bel lt0) (trodAll_cons_mk (Below.trod laidOut (by kernel_rfl) (of_decide_eq_true (by kernel_rfl)) k1 bel lt1) (trodAll_cons_mk (Below.trod laidOut (by kernel_rfl) (of_decide_eq_true (by kernel_rfl)) k2 bel lt2) (trodAll_cons_mk (Below.trod laidOut (by kernel_rfl) (of_decide_eq_true (by kernel_rfl)) k3 bel lt3) trodAll_mk0)))), rfl, bel.frame _, fun h => by cases h⟩

theorem over : Rows.addrRoundRow.holds Try.pinned (OpenSpec.ofChange Rows.addrRoundSpec) :=
  OpenClaim.holds_of_wide 7 Try.f7 rfl rfl rfl rfl rfl rfl rfl ⟨rfl, rfl, rfl, rfl, rfl⟩ rfl rfl rfl rfl rfl (by kernel_rfl) Try.func7 (by kernel_rfl)
    (of_decide_eq_true (by kernel_rfl)) (by unfold Func.isWrapper; first | (rw [if_pos (by decide +kernel)]; kernel_rfl) | (rw [if_neg (by decide +kernel)]; exact ⟨rfl, rfl⟩))
    (fun os started H enc _ => lifted os started H enc)

theorem proved : Rows.AddrRoundSaid := over

end Go.Proofs.Ytffhfpdmfegcpaa.addrRound
