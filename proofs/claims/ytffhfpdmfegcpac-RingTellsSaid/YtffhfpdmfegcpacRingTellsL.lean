/- ringdovelaw.RingTells: for every configuration, number of slots, ring, node and wait, the call returns true. -/
import Derived.Test.YtffhfpdmfegcpacRingTellsA
import Derived.Test.YtffhfpdmfegcpacRingTellsB
import Derived.Test.YtffhfpdmfegcpacRingTellsC
import Derived.Test.YtffhfpdmfegcpacRingTellsD
namespace Go.Proofs.Ytffhfpdmfegcpac.ringTells
open Go.ChangeShapes Go.WideShapes Go.ChangeAt Go.RowKit
open Go.ChangeMaps (open_string shut_string)
open Go.Proofs.Ytffhfpdmfegcpac.base Go.Proofs.Ytffhfpdmfegcpac.knob Go.Proofs.Ytffhfpdmfegcpac.flat Go.Proofs.Ytffhfpdmfegcpac.table Go.Proofs.Ytffhfpdmfegcpac.addr Go.Proofs.Ytffhfpdmfegcpac.slot
set_option linter.unusedVariables false
set_option linter.unusedSimpArgs false

theorem walk_any (cn cs cy cb slots node wait : Int) (ss : List S4) (ra : Option Addr) (rn rc : Nat) (w : World) (hnc : rn ≤ rc) (hcm : rc ≤ maxLen) (hd : ss.length = rn) (h : SlotsAt w ra ss) :
    Calls Try.prog 6 #[.agg #[.int .i64 cn, .int .i64 cs, .int .i64 cy, .int .i64 cb], .int .i64 slots, .slice ra rn rc, .int .i64 node, .int .i64 wait] w (Ret (.bool true) w) := by
  by_cases hr : ringE cn cs cy cb ss = 0
  · have hc := (ringE_len hr).2.2.1
    obtain ⟨x0, hx0⟩ := get_some (xs := ss) (k := 0) (by have := (ringE_len hr).1; omega)
    obtain ⟨b, off, rfl⟩ := SlotsAt.form h hx0
    have hcase : (node < 0 ∨ (0 ≤ node ∧ cn ≤ node) ∨ ((0 ≤ node ∧ node < cn) ∧ wait < 0) ∨ ((0 ≤ node ∧ node < cn) ∧ 0 ≤ wait ∧ 9 < wait)) ∨ ((0 ≤ node ∧ node ≤ cn - 1) ∧ (0 ≤ wait ∧ wait ≤ 9)) := by omega
    by_cases hl : 1 ≤ slots ∧ slots ≤ 8
    · obtain ⟨fn, rfl⟩ : ∃ fn : Nat, slots = fn := ⟨slots.toNat, by omega⟩
      rcases hcase with hor | h12
      · exact w_ok_r cn cs cy cb fn node wait ss b off rn rc w hnc hcm hd h hc (by omega) hr hor
      · cases hby : byB ss node with
        | true => exact w_ok_u cn cs cy cb fn node wait ss b off rn rc w hnc hcm hd h hc (by omega) hr h12 hby
        | false => exact w_ok_p cn cs cy cb fn node wait ss b off rn rc w hnc hcm hd h hc (by omega) hr h12 hby
    · rcases hcase with hor | h12
      · exact w_slots_r cn cs cy cb slots node wait ss b off rn rc w hnc hcm hd h hc (by omega) hr hor
      · cases hby : byB ss node with
        | true => exact w_slots_u cn cs cy cb slots node wait ss b off rn rc w hnc hcm hd h hc (by omega) hr h12 hby
        | false => exact w_slots_p cn cs cy cb slots node wait ss b off rn rc w hnc hcm hd h hc (by omega) hr h12 hby
  · by_cases hc : CfgOK cn cs cy cb
    · by_cases hl : 1 ≤ slots ∧ slots ≤ 8
      · obtain ⟨fn, rfl⟩ : ∃ fn : Nat, slots = fn := ⟨slots.toNat, by omega⟩
        exact w_ok_e cn cs cy cb fn node wait ss ra rn rc w hnc hcm hd h hc (by omega) hr
      · exact w_slots_e cn cs cy cb slots node wait ss ra rn rc w hnc hcm hd h hc (by omega) hr
    · exact w_bad_e cn cs cy cb slots node wait ss ra rn rc w hnc hcm hd h hc hr
theorem walk {H : Type} {enc : TypeId × Value → H} {dd : DataW H} {pp : List MemPlace} (cn cs cy cb slots : Int) (a : Option Addr) (n c : Nat) (node wait : Int) (w : World) (wn : (Lit.int .i64 cn).wf = true) (ws : (Lit.int .i64 cs).wf = true) (wy : (Lit.int .i64 cy).wf = true) (wb : (Lit.int .i64 cb).wf = true) (wsl : (Lit.int .i64 slots).wf = true)
    (k : DataW.Trod enc Try.prog w 0 (fun _ => true) true 74 (.slice a n c) dd pp) (wno : (Lit.int .i64 node).wf = true) (wwa : (Lit.int .i64 wait).wf = true) :
    Calls Try.prog 6 #[.agg #[.int .i64 cn, .int .i64 cs, .int .i64 cy, .int .i64 cb], .int .i64 slots, .slice a n c, .int .i64 node, .int .i64 wait] w (Ret (.bool true) w) := by
  obtain ⟨h1, h2, _, ss, hd, hS, hok⟩ := open_slots (m := 4) Try.underlying74 (by kernel_rfl) (by kernel_rfl) k
  exact walk_any cn cs cy cb slots node wait ss a n c w h1 h2 hd hS

-- the frame, by program
set_option maxRecDepth 100000 in
theorem lifted (os : Os) (started : os.Started) (H : Type) (enc : TypeId × Value → H) :
    ReturnsInHanded {} Try.checked os 6 .any (Rows.ringTellsSpec.pre6 enc Try.prog Try.f6 Rows.ringTellsRow.domain false) (Rows.ringTellsSpec.post enc Try.prog Try.f6 false true false false) := by
  refine returnsInHanded_of_change (C := Try.checked) own started (by kernel_rfl) Try.func6
    (ChangeSpec.witness6 (enc := enc) (C := Try.checked) false ⟨#[], #[.agg #[.int .i64 0, .int .i64 0, .int .i64 0, .int .i64 0], .int .i64 0, .slice none 0 0, .int .i64 0, .int .i64 0], []⟩ 8 (by kernel_rfl) (by kernel_rfl) (by kernel_rfl) (by kernel_rfl)) ?_
  intro W base args ds gs before hval0 hW hcnd _
  have hval : ∀ (j : Nat) t v, Try.f6.params[j]? = some t → args[j]? = some v → Value.okWide Try.prog W .any base t v := hval0
  have hW' := hW
  obtain ⟨p, q, hA0, hV, rfl, hfz, hnd⟩ := hW
  have hA : DataW.TrodAll enc Try.prog W 0 (fun _ => true) true Try.f6.params.toList args.toList ds p := hA0
  rw [Try.params6] at hA hval
  obtain ⟨v0, vs0, d0, ds0, p0, q0, hargs, rfl, rfl, h0, r0⟩ := trodAll_cons hA
  obtain ⟨v1, vs1, d1, ds1, p1, q1, rfl, rfl, rfl, h1, r1⟩ := trodAll_cons r0
  obtain ⟨v2, vs2, d2, ds2, p2, q2, rfl, rfl, rfl, h2, r2⟩ := trodAll_cons r1
  obtain ⟨v3, vs3, d3, ds3, p3, q3, rfl, rfl, rfl, h3, r3⟩ := trodAll_cons r2
  obtain ⟨v4, vs4, d4, ds4, p4, q4, rfl, rfl, rfl, h4, r4⟩ := trodAll_cons r3
  obtain ⟨rfl, rfl, rfl⟩ := trodAll_nil r4
  obtain rfl : args = #[v0, v1, v2, v3, v4] := by cases args; simp_all
  obtain ⟨rfl, rfl⟩ := trodVars_none hV
  have k0 := h0
  have lt0 : ∀ x ∈ p0, x.block < W.heap.size := by obtain ⟨m, hm⟩ := k0; exact DataW.trod_lt m _ _ _ hm
  have k1 := h1
  have lt1 : ∀ x ∈ p1, x.block < W.heap.size := by obtain ⟨m, hm⟩ := k1; exact DataW.trod_lt m _ _ _ hm
  have k2 := h2
  have lt2 : ∀ x ∈ p2, x.block < W.heap.size := by obtain ⟨m, hm⟩ := k2; exact DataW.trod_lt m _ _ _ hm
  have k3 := h3
  have lt3 : ∀ x ∈ p3, x.block < W.heap.size := by obtain ⟨m, hm⟩ := k3; exact DataW.trod_lt m _ _ _ hm
  have k4 := h4
  have lt4 : ∀ x ∈ p4, x.block < W.heap.size := by obtain ⟨m, hm⟩ := k4; exact DataW.trod_lt m _ _ _ hm
  obtain ⟨cs0, rfl, al0⟩ := open_flat (n := 4) [.int .i64, .int .i64, .int .i64, .int .i64] (by kernel_rfl) (by kernel_rfl) (.inl ⟨_, Try.underlying54⟩) (hval 0 54 v0 rfl rfl) h0
  obtain ⟨a0x, a0y, a0z, a0u, rfl, w0x, w0y, w0z, w0u⟩ := all2_cfg al0
  obtain ⟨a1, rfl, rfl, rfl, w1⟩ := open_int Try.underlying3 (hval 1 3 v1 rfl rfl) h1
  obtain ⟨a2, len2, cap2, rfl⟩ := okWide_slice Try.underlying74 (hval 2 74 v2 rfl rfl)
  obtain ⟨a3, rfl, rfl, rfl, w3⟩ := open_int Try.underlying3 (hval 3 3 v3 rfl rfl) h3
  obtain ⟨a4, rfl, rfl, rfl, w4⟩ := open_int Try.underlying3 (hval 4 3 v4 rfl rfl) h4
  clear hA0 hval0
  refine (walk a0x a0y a0z a0u a1 a2 len2 cap2 a3 a4 W w0x w0y w0z w0u w1 k2 w3 w4).mono fun e W' ⟨he, bel⟩ => ?_
  subst he
  exact ⟨_, rfl, _, _, _, [], _, [], hW', trodAll_mk1 (shut_bool Try.underlying4 _), (trodAll_cons_mk (Below.trod laidOut (by kernel_rfl) (of_decide_eq_true (by kernel_rfl)) k0 bel lt0) (trodAll_cons_mk (Below.trod laidOut (by kernel_rfl) (of_decide_eq_true (by kernel_rfl)) k1 bel lt1) (trodAll_cons_mk (Below.trod laidOut (by kernel_rfl) (of_decide_eq_true (by kernel_rfl)) k2 bel lt2) (trodAll_cons_mk (Below.trod laidOut (by kernel_rfl) (of_decide_eq_true (by kernel_rfl)) k3 bel lt3) (trodAll_cons_mk (Below.trod laidOut (by kernel_rfl) (of_decide_eq_true (by kernel_rfl)) k4 bel lt4) trodAll_mk0))))), rfl, bel.frame _, fun h => by cases h⟩

theorem over : Rows.ringTellsRow.holds Try.pinned (OpenSpec.ofChange Rows.ringTellsSpec) :=
  OpenClaim.holds_of_wide 6 Try.f6 rfl rfl rfl rfl rfl rfl rfl ⟨rfl, rfl, rfl, rfl, rfl⟩ rfl rfl rfl rfl rfl (by kernel_rfl) Try.func6 (by kernel_rfl)
    (of_decide_eq_true (by kernel_rfl)) (by unfold Func.isWrapper; first | (rw [if_pos (by decide +kernel)]; kernel_rfl) | (rw [if_neg (by decide +kernel)]; exact ⟨rfl, rfl⟩))
    (fun os started H enc _ => lifted os started H enc)

theorem proved : Rows.RingTellsSaid := over

end Go.Proofs.Ytffhfpdmfegcpac.ringTells
