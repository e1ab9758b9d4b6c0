/- Every function of package tally returns what the reference returns: for all arguments, the law's call returns true. -/
import Derived.Test.YtffhfpdmfegcpabTallyTells
namespace Go.Proofs.Ytffhfpdmfegcpab.tallyTells
open Go.ChangeShapes Go.WideShapes Go.ChangeAt Go.RowKit
open Go.Proofs.Ytffhfpdmfegcpab.base Go.Proofs.Ytffhfpdmfegcpab.knob Go.Proofs.Ytffhfpdmfegcpab.flat Go.Proofs.Ytffhfpdmfegcpab.table Go.Proofs.Ytffhfpdmfegcpab.tally
set_option linter.unusedVariables false
set_option linter.unusedSimpArgs false

theorem walk {H : Type} {enc : TypeId × Value → H} {dd1 : DataW H} {pp1 : List MemPlace} (cn cs cy cb : Int) (xs : List Int) (a : Option Addr) (n c : Nat) (w : World)
    (wn : (Lit.int .i64 cn).wf = true) (ws : (Lit.int .i64 cs).wf = true) (wy : (Lit.int .i64 cy).wf = true) (wb : (Lit.int .i64 cb).wf = true) (hl : xs.length = 64) (wx : ∀ x ∈ xs, (Lit.int .u64 x).wf = true)
    (k1 : DataW.Trod enc Try.prog w 0 (fun _ => true) true 43 (.slice a n c) dd1 pp1) :
    Calls Try.prog 10 #[.agg #[.int .i64 cn, .int .i64 cs, .int .i64 cy, .int .i64 cb], .agg (xs.map (Value.int .u64)).toArray, .slice a n c] w (Ret (.bool true) w) := by
  obtain ⟨h1, h2, _, ts, hd, hT, hts⟩ := open_events (m := 6) Try.underlying43 (by kernel_rfl) (by kernel_rfl) k1
  exact walk_any xs hl wx cn cs cy cb ts hts a n c w (Nat.le_trans h1 h2) hd hT

-- the frame, by program
set_option maxRecDepth 100000 in
theorem lifted (os : Os) (started : os.Started) (H : Type) (enc : TypeId × Value → H) :
    ReturnsInHanded {} Try.checked os 10 .any (Rows.tallyTellsSpec.pre6 enc Try.prog Try.f10 Rows.tallyTellsRow.domain false) (Rows.tallyTellsSpec.post enc Try.prog Try.f10 false true false false) := by
  refine returnsInHanded_of_change (C := Try.checked) own started (by kernel_rfl) Try.func10
    (ChangeSpec.witness6 (enc := enc) (C := Try.checked) false ⟨#[], #[.agg #[.int .i64 0, .int .i64 0, .int .i64 0, .int .i64 0], .agg (Array.replicate 64 (.int .u64 0)), .slice none 0 0], []⟩ 8 (by kernel_rfl) (by kernel_rfl) (by kernel_rfl) (by kernel_rfl)) ?_
  intro W base args ds gs before hval0 hW hcnd _
  have hval : ∀ (j : Nat) t v, Try.f10.params[j]? = some t → args[j]? = some v → Value.okWide Try.prog W .any base t v := hval0
  have hW' := hW
  obtain ⟨p, q, hA0, hV, rfl, hfz, hnd⟩ := hW
  have hA : DataW.TrodAll enc Try.prog W 0 (fun _ => true) true Try.f10.params.toList args.toList ds p := hA0
  rw [Try.params10] at hA hval
  obtain ⟨v0, vs0, d0, ds0, p0, q0, hargs, rfl, rfl, h0, r0⟩ := trodAll_cons hA
  obtain ⟨v1, vs1, d1, ds1, p1, q1, rfl, rfl, rfl, h1, r1⟩ := trodAll_cons r0
  obtain ⟨v2, vs2, d2, ds2, p2, q2, rfl, rfl, rfl, h2, r2⟩ := trodAll_cons r1
  obtain ⟨rfl, rfl, rfl⟩ := trodAll_nil r2
  obtain rfl : args = #[v0, v1, v2] := by cases args; simp_all
  obtain ⟨rfl, rfl⟩ := trodVars_none hV
  have k0 := h0
  have lt0 : ∀ x ∈ p0, x.block < W.heap.size := by obtain ⟨m, hm⟩ := k0; exact DataW.trod_lt m _ _ _ hm
  have k1 := h1
  have lt1 : ∀ x ∈ p1, x.block < W.heap.size := by obtain ⟨m, hm⟩ := k1; exact DataW.trod_lt m _ _ _ hm
  have k2 := h2
  have lt2 : ∀ x ∈ p2, x.block < W.heap.size := by obtain ⟨m, hm⟩ := k2; exact DataW.trod_lt m _ _ _ hm
  obtain ⟨cs0, rfl, al0⟩ := open_flat (n := 4) [.int .i64, .int .i64, .int .i64, .int .i64] (by kernel_rfl) (by kernel_rfl) (.inl ⟨_, Try.underlying42⟩) (hval 0 42 v0 rfl rfl) h0
  obtain ⟨a0x, a0y, a0z, a0u, rfl, w0x, w0y, w0z, w0u⟩ := all2_cfg al0
  obtain ⟨cs1, rfl, al1⟩ := open_flat (n := 4) (List.replicate 64 (.int .u64)) (by kernel_rfl) (by kernel_rfl) (.inr ⟨_, _, Try.underlying26⟩) (hval 1 26 v1 rfl rfl) h1
  obtain ⟨a1, l1, rfl, w1⟩ := all2_ints al1
  obtain ⟨a2, len2, cap2, rfl⟩ := okWide_slice Try.underlying43 (hval 2 43 v2 rfl rfl)
  clear hA0 hval0
  refine (walk a0x a0y a0z a0u a1 a2 len2 cap2 W w0x w0y w0z w0u l1 w1 k2).mono fun e W' ⟨he, bel⟩ => ?_
  subst he
  exact ⟨_, rfl, _, _, _, [], _, [], hW', trodAll_mk1 (shut_bool Try.underlying4 _), (trodAll_cons_mk (Below.trod laidOut (by kernel_rfl) (of_decide_eq_true (by kernel_rfl)) k0 bel lt0) (trodAll_cons_mk (Below.trod laidOut (by kernel_rfl) (of_decide_eq_true (by kernel_rfl)) k1 bel lt1) (trodAll_cons_mk (Below.trod laidOut (by kernel_rfl) (of_decide_eq_true (by kernel_rfl)) k2 bel lt2) trodAll_mk0))), rfl, bel.frame _, fun h => by cases h⟩

theorem over : Rows.tallyTellsRow.holds Try.pinned (OpenSpec.ofChange Rows.tallyTellsSpec) :=
  OpenClaim.holds_of_wide 10 Try.f10 rfl rfl rfl rfl rfl rfl rfl ⟨rfl, rfl, rfl, rfl, rfl⟩ rfl rfl rfl rfl rfl (by kernel_rfl) Try.func10 (by kernel_rfl)
    (of_decide_eq_true (by kernel_rfl)) (by unfold Func.isWrapper; first | (rw [if_pos (by decide +kernel)]; kernel_rfl) | (rw [if_neg (by decide +kernel)]; exact ⟨rfl, rfl⟩))
    (fun os started H enc _ => lifted os started H enc)

theorem proved : Rows.TallyTellsSaid := over

end Go.Proofs.Ytffhfpdmfegcpab.tallyTells
