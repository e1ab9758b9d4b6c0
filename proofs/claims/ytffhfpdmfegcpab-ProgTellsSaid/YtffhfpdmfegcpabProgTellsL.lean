/- Every function of package prog returns what the reference returns: for all arguments, the law's call returns true. -/
import Derived.Test.YtffhfpdmfegcpabProgTells
import Derived.Test.YtffhfpdmfegcpabIntRow
namespace Go.Proofs.Ytffhfpdmfegcpab.progTells
open Go.ChangeShapes Go.WideShapes Go.ChangeAt Go.RowKit
open Go.Proofs.Ytffhfpdmfegcpab.base Go.Proofs.Ytffhfpdmfegcpab.knob Go.Proofs.Ytffhfpdmfegcpab.flat Go.Proofs.Ytffhfpdmfegcpab.table
set_option linter.unusedVariables false
set_option linter.unusedSimpArgs false

theorem walk {H : Type} {enc : TypeId × Value → H} {dd1 dd2 dd4 dd5 : DataW H} {pp1 pp2 pp4 pp5 : List MemPlace} (cn cs cy cb : Int) (pa : Option Addr) (pn pc : Nat) (ta : Option Addr) (tn tc : Nat) (node : Int) (qa : Option Addr) (qn qc : Nat) (la : Option Addr) (ln lc : Nat) (w : World)
    (wn : (Lit.int .i64 cn).wf = true) (ws : (Lit.int .i64 cs).wf = true) (wy : (Lit.int .i64 cy).wf = true) (wb : (Lit.int .i64 cb).wf = true)
    (k1 : DataW.Trod enc Try.prog w 0 (fun _ => true) true 71 (.slice pa pn pc) dd1 pp1) (k2 : DataW.Trod enc Try.prog w 0 (fun _ => true) true 35 (.slice ta tn tc) dd2 pp2) (w3 : (Lit.int .i64 node).wf = true)
    (k4 : DataW.Trod enc Try.prog w 0 (fun _ => true) true 35 (.slice qa qn qc) dd4 pp4) (k5 : DataW.Trod enc Try.prog w 0 (fun _ => true) true 60 (.slice la ln lc) dd5 pp5) :
    Calls Try.prog 9 #[.agg #[.int .i64 cn, .int .i64 cs, .int .i64 cy, .int .i64 cb], .slice pa pn pc, .slice ta tn tc, .int .i64 node, .slice qa qn qc, .slice la ln lc] w (Ret (.bool true) w) := by
  obtain ⟨p1, p2, _, ps, hpn, hP, hps⟩ := open_lists (Q := DeedsAt) (good := D4.Ok) Try.underlying71 Try.underlying60 (by kernel_rfl) (fun a len cap d ps h => open_deeds (m := 4) Try.underlying60 (by kernel_rfl) (by kernel_rfl) h) k1
  obtain ⟨t1, t2, _, ats, htn, hT, _⟩ := open_introw (m := 1) (k := .i64) Try.underlying35 (by kernel_rfl) (by kernel_rfl) k2
  obtain ⟨h1, h2, _, picks, hqn, hQ, _⟩ := open_introw (m := 1) (k := .i64) Try.underlying35 (by kernel_rfl) (by kernel_rfl) k4
  obtain ⟨l1, l2, l3, ls, hln, hL, hls⟩ := open_deeds (m := 4) Try.underlying60 (by kernel_rfl) (by kernel_rfl) k5
  exact walk_any cn cs cy cb ps hps pa pn pc ats ta tn tc node picks qa qn qc ls hls la ln lc w hpn (Nat.le_trans p1 p2) hP htn (Nat.le_trans t1 t2) hT hqn (Nat.le_trans h1 h2) hQ hln (Nat.le_trans l1 l2) l3 hL

-- the frame, by program
set_option maxRecDepth 100000 in
theorem lifted (os : Os) (started : os.Started) (H : Type) (enc : TypeId × Value → H) :
    ReturnsInHanded {} Try.checked os 9 .any (Rows.progTellsSpec.pre6 enc Try.prog Try.f9 Rows.progTellsRow.domain false) (Rows.progTellsSpec.post enc Try.prog Try.f9 false true false false) := by
  refine returnsInHanded_of_change (C := Try.checked) own started (by kernel_rfl) Try.func9
    (ChangeSpec.witness6 (enc := enc) (C := Try.checked) false ⟨#[], #[.agg #[.int .i64 0, .int .i64 0, .int .i64 0, .int .i64 0], .slice none 0 0, .slice none 0 0, .int .i64 0, .slice none 0 0, .slice none 0 0], []⟩ 8 (by kernel_rfl) (by kernel_rfl) (by kernel_rfl) (by kernel_rfl)) ?_
  intro W base args ds gs before hval0 hW hcnd _
  have hval : ∀ (j : Nat) t v, Try.f9.params[j]? = some t → args[j]? = some v → Value.okWide Try.prog W .any base t v := hval0
  have hW' := hW
  obtain ⟨p, q, hA0, hV, rfl, hfz, hnd⟩ := hW
  have hA : DataW.TrodAll enc Try.prog W 0 (fun _ => true) true Try.f9.params.toList args.toList ds p := hA0
  rw [Try.params9] at hA hval
  obtain ⟨v0, vs0, d0, ds0, p0, q0, hargs, rfl, rfl, h0, r0⟩ := trodAll_cons hA
  obtain ⟨v1, vs1, d1, ds1, p1, q1, rfl, rfl, rfl, h1, r1⟩ := trodAll_cons r0
  obtain ⟨v2, vs2, d2, ds2, p2, q2, rfl, rfl, rfl, h2, r2⟩ := trodAll_cons r1
  obtain ⟨v3, vs3, d3, ds3, p3, q3, rfl, rfl, rfl, h3, r3⟩ := trodAll_cons r2
  obtain ⟨v4, vs4, d4, ds4, p4, q4, rfl, rfl, rfl, h4, r4⟩ := trodAll_cons r3
  obtain ⟨v5, vs5, d5, ds5, p5, q5, rfl, rfl, rfl, h5, r5⟩ := trodAll_cons r4
  obtain ⟨rfl, rfl, rfl⟩ := trodAll_nil r5
  obtain rfl : args = #[v0, v1, v2, v3, v4, v5] := by cases args; simp_all
  obtain ⟨rfl, rfl⟩ := trodVars_none hV
  have k0 := h0
  have lt0 : ∀ x ∈ p0, x.block < W.heap.size := by obtain ⟨m, hm⟩ := k0; exact DataW.trod_lt m _ _ _ hm
  have k1 := h1
  have lt1 : ∀ x ∈ p1, x.block < W.heap.size := by obtain ⟨m, hm⟩ := k1; exact DataW.trod_lt m _ _ _ hm
  have k2 := h2
  have lt2 : ∀ x ∈ p2, x.block < W.heap.size := by obtain ⟨m, hm⟩ := k2; exact DataW.trod_lt m _ _ _ hm
  have k3 := h3
  have lt3 : ∀ x ∈ p3, x.block < W.heap.size := by obtain ⟨m, hm⟩ := k3; exact DataW.trod_lt m _ _ _ hm
  have k4 := h4
  have lt4 : ∀ x ∈ p4, x.block < W.heap.size := by obtain ⟨m, hm⟩ := k4; exact DataW.trod_lt m _ _ _ hm
  have k5 := h5
  have lt5 : ∀ x ∈ p5, x.block < W.heap.size := by obtain ⟨m, hm⟩ := k5; exact DataW.trod_lt m _ _ _ hm
  obtain ⟨cs0, rfl, al0⟩ := open_flat (n := 4) [.int .i64, .int .i64, .int .i64, .int .i64] (by kernel_rfl) (by kernel_rfl) (.inl ⟨_, Try.underlying42⟩) (hval 0 42 v0 rfl rfl) h0
  obtain ⟨a0x, a0y, a0z, a0u, rfl, w0x, w0y, w0z, w0u⟩ := all2_cfg al0
  obtain ⟨a1, len1, cap1, rfl⟩ := okWide_slice Try.underlying71 (hval 1 71 v1 rfl rfl)
  obtain ⟨a2, len2, cap2, rfl⟩ := okWide_slice Try.underlying35 (hval 2 35 v2 rfl rfl)
  obtain ⟨a3, rfl, rfl, rfl, w3⟩ := open_int Try.underlying3 (hval 3 3 v3 rfl rfl) h3
  obtain ⟨a4, len4, cap4, rfl⟩ := okWide_slice Try.underlying35 (hval 4 35 v4 rfl rfl)
  obtain ⟨a5, len5, cap5, rfl⟩ := okWide_slice Try.underlying60 (hval 5 60 v5 rfl rfl)
  clear hA0 hval0
  refine (walk a0x a0y a0z a0u a1 len1 cap1 a2 len2 cap2 a3 a4 len4 cap4 a5 len5 cap5 W w0x w0y w0z w0u k1 k2 w3 k4 k5).mono fun e W' ⟨he, bel⟩ => ?_
  subst he
  exact ⟨_, rfl, _, _, _, [], _, [], hW', trodAll_mk1 (shut_bool Try.underlying4 _), (trodAll_cons_mk (Below.trod laidOut (by kernel_rfl) (of_decide_eq_true (by kernel_rfl)) k0 bel lt0) (trodAll_cons_mk (Below.trod laidOut (by kernel_rfl) (of_decide_eq_true (by kernel_rfl)) k1 bel lt1) (trodAll_cons_mk (Below.trod laidOut (by kernel_rfl) (of_decide_eq_true (by kernel_rfl)) k2 bel lt2) (trodAll_cons_mk (Below.trod laidOut (by kernel_rfl) (of_decide_eq_true (by kernel_rfl)) k3 bel lt3) (trodAll_cons_mk (Below.trod laidOut (by kernel_rfl) (of_decide_eq_true (by kernel_rfl)) k4 bel lt4) (trodAll_cons_mk (Below.trod laidOut (by kernel_rfl) (of_decide_eq_true (by kernel_rfl)) k5 bel lt5) trodAll_mk0)))))), rfl, bel.frame _, fun h => by cases h⟩

theorem over : Rows.progTellsRow.holds Try.pinned (OpenSpec.ofChange Rows.progTellsSpec) :=
  OpenClaim.holds_of_wide 9 Try.f9 rfl rfl rfl rfl rfl rfl rfl ⟨rfl, rfl, rfl, rfl, rfl⟩ rfl rfl rfl rfl rfl (by kernel_rfl) Try.func9 (by kernel_rfl)
    (of_decide_eq_true (by kernel_rfl)) (by unfold Func.isWrapper; first | (rw [if_pos (by decide +kernel)]; kernel_rfl) | (rw [if_neg (by decide +kernel)]; exact ⟨rfl, rfl⟩))
    (fun os started H enc _ => lifted os started H enc)

theorem proved : Rows.ProgTellsSaid := over

end Go.Proofs.Ytffhfpdmfegcpab.progTells
