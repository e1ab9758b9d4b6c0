/- The law ringdovekeep.AgreeReads, stated as the given row states it: it returns true for every configuration, world and line. Conditions: none. -/
import Derived.Test.YtffhfpdmfegcpacAgreeReads
namespace Go.Proofs.Ytffhfpdmfegcpac.agreeReads
open Go.ChangeShapes Go.WideShapes Go.ChangeAt Go.RowKit
open Go.Proofs.Ytffhfpdmfegcpac.base Go.Proofs.Ytffhfpdmfegcpac.knob Go.Proofs.Ytffhfpdmfegcpac.flat Go.Proofs.Ytffhfpdmfegcpac.table Go.Proofs.Ytffhfpdmfegcpac.ways Go.Proofs.Ytffhfpdmfegcpac.memEq Go.Proofs.Ytffhfpdmfegcpac.agree
set_option linter.unusedVariables false
set_option linter.unusedSimpArgs false

theorem walk {H : Type} {enc : TypeId × Value → H} {dd1 : DataW H} {pp1 : List MemPlace} (cn cs cy cb : Int) (ca : Option Addr) (n cc : Nat) (xs : List Int) (L : Int) (w : World)
    (wn : (Lit.int .i64 cn).wf = true) (ws : (Lit.int .i64 cs).wf = true) (wy : (Lit.int .i64 cy).wf = true) (wb : (Lit.int .i64 cb).wf = true)
    (hxl : xs.length = 64) (wx : ∀ x ∈ xs, (Lit.int .u64 x).wf = true)
    (k1 : DataW.Trod enc Try.prog w 0 (fun _ => true) true 55 (.slice ca n cc) dd1 pp1) (wL : (Lit.int .i64 L).wf = true) :
    Calls Try.prog 5 #[.agg #[.int .i64 cn, .int .i64 cs, .int .i64 cy, .int .i64 cb], .agg (Value.slice ca n cc :: xs.map (Value.int .u64)).toArray, .int .i64 L] w (Ret (.bool true) w) := by
  obtain ⟨h1, h2, _, hs, hn, hH, hok⟩ := open_lists (Q := CacheAt) (good := R4.Ok) Try.underlying55 Try.underlying63 (by kernel_rfl) (fun a len cap d ps h => open_cache (m := 4) (k := 4) Try.underlying63 (by kernel_rfl) (by kernel_rfl) Try.underlying129 (by kernel_rfl) (by kernel_rfl) h) k1
  by_cases hE : askE cn cs cy cb hs xs L = 0
  · obtain ⟨_, hL, _⟩ := askE_ok hE
    obtain ⟨K, rfl⟩ := Int.eq_ofNat_of_zero_le hL
    exact walk_ok cn cs cy cb xs hxl wx hs hok ca n cc w hn (Nat.le_trans h1 h2) hH K hE
  · exact walk_bad cn cs cy cb xs hxl wx hs hok ca n cc w hn (Nat.le_trans h1 h2) hH L hE

-- the frame, by program
set_option maxRecDepth 100000 in
theorem lifted (os : Os) (started : os.Started) (H : Type) (enc : TypeId × Value → H) :
    ReturnsInHanded {} Try.checked os 5 .any (Rows.agreeReadsSpec.pre6 enc Try.prog Try.f5 Rows.agreeReadsRow.domain false) (Rows.agreeReadsSpec.post enc Try.prog Try.f5 false true false false) := by
  refine returnsInHanded_of_change (C := Try.checked) own started (by kernel_rfl) Try.func5
    (ChangeSpec.witness6 (enc := enc) (C := Try.checked) false ⟨#[], #[.agg #[.int .i64 0, .int .i64 0, .int .i64 0, .int .i64 0], .agg ((.slice none 0 0 : Value) :: List.replicate 64 (Value.int .u64 0)).toArray, .int .i64 0], []⟩ 8 (by kernel_rfl) (by kernel_rfl) (by kernel_rfl) (by kernel_rfl)) ?_
  intro W base args ds gs before hval0 hW hcnd _
  have hval : ∀ (j : Nat) t v, Try.f5.params[j]? = some t → args[j]? = some v → Value.okWide Try.prog W .any base t v := hval0
  have hW' := hW
  obtain ⟨p, q, hA0, hV, rfl, hfz, hnd⟩ := hW
  have hA : DataW.TrodAll enc Try.prog W 0 (fun _ => true) true Try.f5.params.toList args.toList ds p := hA0
  rw [Try.params5] at hA hval
  obtain ⟨v0, vs0, d0, ds0, p0, q0, hargs, rfl, rfl, h0, r0⟩ := trodAll_cons hA
  obtain ⟨v1, vs1, d1, ds1, p1, q1, rfl, rfl, rfl, h1, r1⟩ := trodAll_cons r0
  obtain ⟨v2, vs2, d2, ds2, p2, q2, rfl, rfl, rfl, h2, r2⟩ := trodAll_cons r1
  obtain ⟨rfl, rfl, rfl⟩ := trodAll_nil r2
  obtain rfl : args = #[v0, v1, v2] := by cases args; simp_all
  obtain ⟨rfl, rfl⟩ := trodVars_none hV
  have k0 := h0
  have lt0 : ∀ x ∈ p0, x.block < W.heap.size := by obtain ⟨m, hm⟩ := k0; exact DataW.trod_lt m _ _ _ hm
  have k1 := h1
  have lt1 : ∀ x ∈ p1, x.block < W.heap.size := by obtain ⟨m, hm⟩ := k1; exact DataW.trod_lt m _ _ _ hm
  have k2 := h2
  have lt2 : ∀ x ∈ p2, x.block < W.heap.size := by obtain ⟨m, hm⟩ := k2; exact DataW.trod_lt m _ _ _ hm
  obtain ⟨cs0, rfl, al0⟩ := open_flat (n := 4) [.int .i64, .int .i64, .int .i64, .int .i64] (by kernel_rfl) (by kernel_rfl) (.inl ⟨_, Try.underlying54⟩) (hval 0 54 v0 rfl rfl) h0
  obtain ⟨a0x, a0y, a0z, a0u, rfl, w0x, w0y, w0z, w0u⟩ := all2_cfg al0
  obtain ⟨cs1, rfl, al1⟩ := open_flat (n := 4) (.other 55 :: List.replicate 64 (.int .u64)) (by kernel_rfl) (by kernel_rfl) (.inl ⟨_, Try.underlying57⟩) (hval 1 57 v1 rfl rfl) h1
  obtain ⟨vc1, vs1, rfl, ⟨fu1, ⟨yd1, yp1⟩, hc1⟩, ag1⟩ := all2_cons al1
  obtain ⟨a1, l1, rfl, w1⟩ := all2_ints ag1
  obtain ⟨ca1, cn1, cc1, rfl⟩ := slice_cell Try.underlying55 hc1
  obtain ⟨a2, rfl, rfl, rfl, w2⟩ := open_int Try.underlying3 (hval 2 3 v2 rfl rfl) h2
  clear hA0 hval0
  refine (walk a0x a0y a0z a0u ca1 cn1 cc1 a1 a2 W w0x w0y w0z w0u l1 w1 ⟨fu1, hc1⟩ w2).mono fun e W' ⟨he, bel⟩ => ?_
  subst he
  exact ⟨_, rfl, _, _, _, [], _, [], hW', trodAll_mk1 (shut_bool Try.underlying4 _), (trodAll_cons_mk (Below.trod laidOut (by kernel_rfl) (of_decide_eq_true (by kernel_rfl)) k0 bel lt0) (trodAll_cons_mk (Below.trod laidOut (by kernel_rfl) (of_decide_eq_true (by kernel_rfl)) k1 bel lt1) (trodAll_cons_mk (Below.trod laidOut (by kernel_rfl) (of_decide_eq_true (by kernel_rfl)) k2 bel lt2) trodAll_mk0))), rfl, bel.frame _, fun h => by cases h⟩

theorem over : Rows.agreeReadsRow.holds Try.pinned (OpenSpec.ofChange Rows.agreeReadsSpec) :=
  OpenClaim.holds_of_wide 5 Try.f5 rfl rfl rfl rfl rfl rfl rfl ⟨rfl, rfl, rfl, rfl, rfl⟩ rfl rfl rfl rfl rfl (by kernel_rfl) Try.func5 (by kernel_rfl)
    (of_decide_eq_true (by kernel_rfl)) (by unfold Func.isWrapper; first | (rw [if_pos (by decide +kernel)]; kernel_rfl) | (rw [if_neg (by decide +kernel)]; exact ⟨rfl, rfl⟩))
    (fun os started H enc _ => lifted os started H enc)

theorem proved : Rows.AgreeReadsSaid := over

end Go.Proofs.Ytffhfpdmfegcpac.agreeReads
