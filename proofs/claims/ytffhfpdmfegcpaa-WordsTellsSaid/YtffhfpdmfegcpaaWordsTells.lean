/- ringdovelaw.WordsTells: for every line, place, word and string, the call returns true. -/
import Derived.Test.YtffhfpdmfegcpaaPackOf
import Derived.Deep.RegionWith
namespace Go.Proofs.Ytffhfpdmfegcpaa.wordsTells
open Go.ChangeShapes Go.WideShapes Go.ChangeAt Go.RowKit
open Go.ChangeMaps (open_string shut_string)
open Go.Proofs.Ytffhfpdmfegcpaa.base Go.Proofs.Ytffhfpdmfegcpaa.knob Go.Proofs.Ytffhfpdmfegcpaa.flat Go.Proofs.Ytffhfpdmfegcpaa.words Go.Proofs.Ytffhfpdmfegcpaa.pack
set_option linter.unusedVariables false
set_option linter.unusedSimpArgs false

set_option maxHeartbeats 4000000 in
set_option maxRecDepth 100000 in
theorem walk_k_s (a b c d  v : Int) (s : ByteArray) (w : World) (wa : (Lit.int .u64 a).wf = true) (wb : (Lit.int .u64 b).wf = true) (wc : (Lit.int .u64 c).wf = true) (wd : (Lit.int .u64 d).wf = true) (wv : (Lit.int .u64 v).wf = true) (ws : s.size ≤ maxLen) (K : Nat) (hK : K < 4) (h : s.size = 32) :
    Calls Try.prog 8 #[.agg #[.int .u64 a, .int .u64 b, .int .u64 c, .int .u64 d], .int .i64 (K : Int), .int .u64 v, .string s] w (Ret (.bool true) w) := by
  have PP := fun w => pack_any a b c d w
  have PO := fun w => packOf_any a b c d w wa wb wc wd
  generalize packS a b c d = ps at *
  have HP := Lib.hid PP
  have HPO := Lib.hid PO
  have hz := fun w => run_same_line w 0 0 0 0 wf_zero wf_zero wf_zero wf_zero
  have hs := fun w => run_same_line w _ _ _ _ (wf_lset (i := 0) (k := (K : Int)) wv wa) (wf_lset (i := 1) (k := (K : Int)) wv wb) (wf_lset (i := 2) (k := (K : Int)) wv wc) (wf_lset (i := 3) (k := (K : Int)) wv wd)
  have hi : ∀ w, (Instr.index 29 (.agg #[.int .u64 a, .int .u64 b, .int .u64 c, .int .u64 d]) (.int .i64 (K : Int))).run Try.prog w = .ok (.int .u64 (lget a b c d K)) w := fun w => by
    obtain rfl | rfl | rfl | rfl : K = 0 ∨ K = 1 ∨ K = 2 ∨ K = 3 := by omega
    all_goals rfl
  have hat : ∀ h, (#[.int .u64 a, .int .u64 b, .int .u64 c, .int .u64 d] : Array Value)[K]'h = .int .u64 (lget a b c d K) := by
    obtain rfl | rfl | rfl | rfl : K = 0 ∨ K = 1 ∨ K = 2 ∨ K = 3 := by omega
    all_goals exact fun _ => rfl
  have hset : (#[.int .u64 a, .int .u64 b, .int .u64 c, .int .u64 d] : Array Value).setIfInBounds K (.int .u64 v) = #[.int .u64 (lset 0 K v a), .int .u64 (lset 1 K v b), .int .u64 (lset 2 K v c), .int .u64 (lset 3 K v d)] := by
    obtain rfl | rfl | rfl | rfl : K = 0 ∨ K = 1 ∨ K = 2 ∨ K = 3 := by omega
    all_goals rfl
  have hss : ((s.size : Int) != 32) = false := by rw [h]; rfl
  have hss' : ((s.size : Int) == 32) = true := by rw [h]; rfl
  have PU := fun w => unpack_ok s w h
  have PUO := fun w => packOf_any (unp s 0 32) (unp s 1 32) (unp s 2 32) (unp s 3 32) w (wf_unp _ _ _) (wf_unp _ _ _) (wf_unp _ _ _) (wf_unp _ _ _)
  rw [packS_unp h] at PUO
  generalize unp s 0 32 = y0 at *
  generalize unp s 1 32 = y1 at *
  generalize unp s 2 32 = y2 at *
  generalize unp s 3 32 = y3 at *
  have HU := Lib.hid PU
  have HPU := Lib.hid PUO
  clear PU PUO h
  clear PP PO
  unfold maxLen at ws
  go_enter Try.func8, Try.ntmps8
  go_wp2_with (first
    | (go_at_call 20; refine (load_ok _ _ _ _ _ _ (by omega) (by omega)).mono ?_; rintro e w1 ⟨rfl, hb1⟩; obtain ⟨l1, d1, rfl⟩ := later_of hb1; clear hb1)
    | (go_at_call 18; refine (store_ok _ _ _ _ _ _ _ (by omega) (by omega)).mono ?_; rintro e w1 ⟨rfl, hb1⟩; obtain ⟨l1, d1, rfl⟩ := later_of hb1; clear hb1)
    | (go_at_call 19; refine (swap_ok _ _ _ _ _ _ _ (by omega) (by omega)).mono ?_; rintro e w1 ⟨rfl, hb1⟩; obtain ⟨l1, d1, rfl⟩ := later_of hb1; clear hb1)
    | (go_at_call 16; refine (HU.out _).mono ?_; rintro e w1 ⟨rfl, hb1⟩; obtain ⟨l1, d1, rfl⟩ := later_of hb1; clear hb1))
  go_region_with (first
    | (go_at_call 17; refine (HP.out _).mono ?_; rintro e w1 ⟨rfl, hb1⟩; obtain ⟨l1, d1, rfl⟩ := later_of hb1; clear hb1)
    | (go_at_call 31; refine (HPO.out _).mono ?_; rintro e w1 ⟨rfl, hb1⟩; obtain ⟨l1, d1, rfl⟩ := later_of hb1; clear hb1))
  all_goals
    go_wp2_with (go_at_call 31; refine (HPU.out _).mono ?_; rintro e w1 ⟨rfl, hb1⟩; obtain ⟨l1, d1, rfl⟩ := later_of hb1; clear hb1)
    go_ret
    exact ⟨rfl, by repeat (first | exact Below.refl _ _ | apply bs_later | apply bs_alloc | apply bs_drew | apply bs_drewN)⟩

set_option maxHeartbeats 4000000 in
set_option maxRecDepth 100000 in
theorem walk_k_ns (a b c d  v : Int) (s : ByteArray) (w : World) (wa : (Lit.int .u64 a).wf = true) (wb : (Lit.int .u64 b).wf = true) (wc : (Lit.int .u64 c).wf = true) (wd : (Lit.int .u64 d).wf = true) (wv : (Lit.int .u64 v).wf = true) (ws : s.size ≤ maxLen) (K : Nat) (hK : K < 4) (h : ¬ s.size = 32) :
    Calls Try.prog 8 #[.agg #[.int .u64 a, .int .u64 b, .int .u64 c, .int .u64 d], .int .i64 (K : Int), .int .u64 v, .string s] w (Ret (.bool true) w) := by
  have PP := fun w => pack_any a b c d w
  have PO := fun w => packOf_any a b c d w wa wb wc wd
  generalize packS a b c d = ps at *
  have HP := Lib.hid PP
  have HPO := Lib.hid PO
  have hz := fun w => run_same_line w 0 0 0 0 wf_zero wf_zero wf_zero wf_zero
  have hs := fun w => run_same_line w _ _ _ _ (wf_lset (i := 0) (k := (K : Int)) wv wa) (wf_lset (i := 1) (k := (K : Int)) wv wb) (wf_lset (i := 2) (k := (K : Int)) wv wc) (wf_lset (i := 3) (k := (K : Int)) wv wd)
  have hi : ∀ w, (Instr.index 29 (.agg #[.int .u64 a, .int .u64 b, .int .u64 c, .int .u64 d]) (.int .i64 (K : Int))).run Try.prog w = .ok (.int .u64 (lget a b c d K)) w := fun w => by
    obtain rfl | rfl | rfl | rfl : K = 0 ∨ K = 1 ∨ K = 2 ∨ K = 3 := by omega
    all_goals rfl
  have hat : ∀ h, (#[.int .u64 a, .int .u64 b, .int .u64 c, .int .u64 d] : Array Value)[K]'h = .int .u64 (lget a b c d K) := by
    obtain rfl | rfl | rfl | rfl : K = 0 ∨ K = 1 ∨ K = 2 ∨ K = 3 := by omega
    all_goals exact fun _ => rfl
  have hset : (#[.int .u64 a, .int .u64 b, .int .u64 c, .int .u64 d] : Array Value).setIfInBounds K (.int .u64 v) = #[.int .u64 (lset 0 K v a), .int .u64 (lset 1 K v b), .int .u64 (lset 2 K v c), .int .u64 (lset 3 K v d)] := by
    obtain rfl | rfl | rfl | rfl : K = 0 ∨ K = 1 ∨ K = 2 ∨ K = 3 := by omega
    all_goals rfl
  have hss : ((s.size : Int) != 32) = true := by simp; omega
  have hss' : ((s.size : Int) == 32) = false := by simp; omega
  have PU := fun w => unpack_bad s w h ws
  have HU := Lib.hid PU
  clear PU h
  clear PP PO
  unfold maxLen at ws
  go_enter Try.func8, Try.ntmps8
  go_wp2_with (first
    | (go_at_call 20; refine (load_ok _ _ _ _ _ _ (by omega) (by omega)).mono ?_; rintro e w1 ⟨rfl, hb1⟩; obtain ⟨l1, d1, rfl⟩ := later_of hb1; clear hb1)
    | (go_at_call 18; refine (store_ok _ _ _ _ _ _ _ (by omega) (by omega)).mono ?_; rintro e w1 ⟨rfl, hb1⟩; obtain ⟨l1, d1, rfl⟩ := later_of hb1; clear hb1)
    | (go_at_call 19; refine (swap_ok _ _ _ _ _ _ _ (by omega) (by omega)).mono ?_; rintro e w1 ⟨rfl, hb1⟩; obtain ⟨l1, d1, rfl⟩ := later_of hb1; clear hb1)
    | (go_at_call 16; refine (HU.out _).mono ?_; rintro e w1 ⟨rfl, hb1⟩; obtain ⟨l1, d1, rfl⟩ := later_of hb1; clear hb1))
  go_region_with (first
    | (go_at_call 17; refine (HP.out _).mono ?_; rintro e w1 ⟨rfl, hb1⟩; obtain ⟨l1, d1, rfl⟩ := later_of hb1; clear hb1)
    | (go_at_call 31; refine (HPO.out _).mono ?_; rintro e w1 ⟨rfl, hb1⟩; obtain ⟨l1, d1, rfl⟩ := later_of hb1; clear hb1))
  all_goals
    go_wp2
    go_ret
    exact ⟨rfl, by repeat (first | exact Below.refl _ _ | apply bs_later | apply bs_alloc | apply bs_drew | apply bs_drewN)⟩

set_option maxHeartbeats 4000000 in
set_option maxRecDepth 100000 in
theorem walk_nk_s (a b c d k v : Int) (s : ByteArray) (w : World) (wa : (Lit.int .u64 a).wf = true) (wb : (Lit.int .u64 b).wf = true) (wc : (Lit.int .u64 c).wf = true) (wd : (Lit.int .u64 d).wf = true) (wv : (Lit.int .u64 v).wf = true) (ws : s.size ≤ maxLen) (hk : k < 0 ∨ 3 < k) (h : s.size = 32) :
    Calls Try.prog 8 #[.agg #[.int .u64 a, .int .u64 b, .int .u64 c, .int .u64 d], .int .i64 k, .int .u64 v, .string s] w (Ret (.bool true) w) := by
  have PP := fun w => pack_any a b c d w
  have PO := fun w => packOf_any a b c d w wa wb wc wd
  generalize packS a b c d = ps at *
  have HP := Lib.hid PP
  have HPO := Lib.hid PO
  have hz := fun w => run_same_line w 0 0 0 0 wf_zero wf_zero wf_zero wf_zero
  have hss : ((s.size : Int) != 32) = false := by rw [h]; rfl
  have hss' : ((s.size : Int) == 32) = true := by rw [h]; rfl
  have PU := fun w => unpack_ok s w h
  have PUO := fun w => packOf_any (unp s 0 32) (unp s 1 32) (unp s 2 32) (unp s 3 32) w (wf_unp _ _ _) (wf_unp _ _ _) (wf_unp _ _ _) (wf_unp _ _ _)
  rw [packS_unp h] at PUO
  generalize unp s 0 32 = y0 at *
  generalize unp s 1 32 = y1 at *
  generalize unp s 2 32 = y2 at *
  generalize unp s 3 32 = y3 at *
  have HU := Lib.hid PU
  have HPU := Lib.hid PUO
  clear PU PUO h
  clear PP PO
  unfold maxLen at ws
  go_enter Try.func8, Try.ntmps8
  go_wp2_with (first
    | (go_at_call 20; refine (load_bad _ _ _ _ _ _ hk).mono ?_; rintro e w1 ⟨rfl, hb1⟩; obtain ⟨l1, d1, rfl⟩ := later_of hb1; clear hb1)
    | (go_at_call 18; refine (store_bad _ _ _ _ _ _ _ hk).mono ?_; rintro e w1 ⟨rfl, hb1⟩; obtain ⟨l1, d1, rfl⟩ := later_of hb1; clear hb1)
    | (go_at_call 19; refine (swap_bad _ _ _ _ _ _ _ hk).mono ?_; rintro e w1 ⟨rfl, hb1⟩; obtain ⟨l1, d1, rfl⟩ := later_of hb1; clear hb1)
    | (go_at_call 16; refine (HU.out _).mono ?_; rintro e w1 ⟨rfl, hb1⟩; obtain ⟨l1, d1, rfl⟩ := later_of hb1; clear hb1))
  go_region_with (first
    | (go_at_call 17; refine (HP.out _).mono ?_; rintro e w1 ⟨rfl, hb1⟩; obtain ⟨l1, d1, rfl⟩ := later_of hb1; clear hb1)
    | (go_at_call 31; refine (HPO.out _).mono ?_; rintro e w1 ⟨rfl, hb1⟩; obtain ⟨l1, d1, rfl⟩ := later_of hb1; clear hb1))
  all_goals
    rcases hk with hk | hk
    case' inr => have hk0 : ¬ k < 0 := by omega
    all_goals
      go_wp2_with (go_at_call 31; refine (HPU.out _).mono ?_; rintro e w1 ⟨rfl, hb1⟩; obtain ⟨l1, d1, rfl⟩ := later_of hb1; clear hb1)
      go_ret
      exact ⟨rfl, by repeat (first | exact Below.refl _ _ | apply bs_later | apply bs_alloc | apply bs_drew | apply bs_drewN)⟩

set_option maxHeartbeats 4000000 in
set_option maxRecDepth 100000 in
theorem walk_nk_ns (a b c d k v : Int) (s : ByteArray) (w : World) (wa : (Lit.int .u64 a).wf = true) (wb : (Lit.int .u64 b).wf = true) (wc : (Lit.int .u64 c).wf = true) (wd : (Lit.int .u64 d).wf = true) (wv : (Lit.int .u64 v).wf = true) (ws : s.size ≤ maxLen) (hk : k < 0 ∨ 3 < k) (h : ¬ s.size = 32) :
    Calls Try.prog 8 #[.agg #[.int .u64 a, .int .u64 b, .int .u64 c, .int .u64 d], .int .i64 k, .int .u64 v, .string s] w (Ret (.bool true) w) := by
  have PP := fun w => pack_any a b c d w
  have PO := fun w => packOf_any a b c d w wa wb wc wd
  generalize packS a b c d = ps at *
  have HP := Lib.hid PP
  have HPO := Lib.hid PO
  have hz := fun w => run_same_line w 0 0 0 0 wf_zero wf_zero wf_zero wf_zero
  have hss : ((s.size : Int) != 32) = true := by simp; omega
  have hss' : ((s.size : Int) == 32) = false := by simp; omega
  have PU := fun w => unpack_bad s w h ws
  have HU := Lib.hid PU
  clear PU h
  clear PP PO
  unfold maxLen at ws
  go_enter Try.func8, Try.ntmps8
  go_wp2_with (first
    | (go_at_call 20; refine (load_bad _ _ _ _ _ _ hk).mono ?_; rintro e w1 ⟨rfl, hb1⟩; obtain ⟨l1, d1, rfl⟩ := later_of hb1; clear hb1)
    | (go_at_call 18; refine (store_bad _ _ _ _ _ _ _ hk).mono ?_; rintro e w1 ⟨rfl, hb1⟩; obtain ⟨l1, d1, rfl⟩ := later_of hb1; clear hb1)
    | (go_at_call 19; refine (swap_bad _ _ _ _ _ _ _ hk).mono ?_; rintro e w1 ⟨rfl, hb1⟩; obtain ⟨l1, d1, rfl⟩ := later_of hb1; clear hb1)
    | (go_at_call 16; refine (HU.out _).mono ?_; rintro e w1 ⟨rfl, hb1⟩; obtain ⟨l1, d1, rfl⟩ := later_of hb1; clear hb1))
  go_region_with (first
    | (go_at_call 17; refine (HP.out _).mono ?_; rintro e w1 ⟨rfl, hb1⟩; obtain ⟨l1, d1, rfl⟩ := later_of hb1; clear hb1)
    | (go_at_call 31; refine (HPO.out _).mono ?_; rintro e w1 ⟨rfl, hb1⟩; obtain ⟨l1, d1, rfl⟩ := later_of hb1; clear hb1))
  all_goals
    rcases hk with hk | hk
    case' inr => have hk0 : ¬ k < 0 := by omega
    all_goals
      go_wp2
      go_ret
      exact ⟨rfl, by repeat (first | exact Below.refl _ _ | apply bs_later | apply bs_alloc | apply bs_drew | apply bs_drewN)⟩

theorem walk (a b c d k v : Int) (s : ByteArray) (w : World) (wa : (Lit.int .u64 a).wf = true) (wb : (Lit.int .u64 b).wf = true) (wc : (Lit.int .u64 c).wf = true) (wd : (Lit.int .u64 d).wf = true) (wk : (Lit.int .i64 k).wf = true) (wv : (Lit.int .u64 v).wf = true) (ws : s.size ≤ maxLen) :
    Calls Try.prog 8 #[.agg #[.int .u64 a, .int .u64 b, .int .u64 c, .int .u64 d], .int .i64 k, .int .u64 v, .string s] w (Ret (.bool true) w) := by
  by_cases hk : 0 ≤ k ∧ k ≤ 3
  · obtain ⟨K, rfl⟩ := Int.eq_ofNat_of_zero_le hk.1
    by_cases h : s.size = 32
    · exact walk_k_s a b c d v s w wa wb wc wd wv ws K (by omega) h
    · exact walk_k_ns a b c d v s w wa wb wc wd wv ws K (by omega) h
  · by_cases h : s.size = 32
    · exact walk_nk_s a b c d k v s w wa wb wc wd wv ws (by omega) h
    · exact walk_nk_ns a b c d k v s w wa wb wc wd wv ws (by omega) h

-- the frame, by program
set_option maxRecDepth 100000 in
theorem lifted (os : Os) (started : os.Started) (H : Type) (enc : TypeId × Value → H) :
    ReturnsInHanded {} Try.checked os 8 .any (Rows.wordsTellsSpec.pre6 enc Try.prog Try.f8 Rows.wordsTellsRow.domain false) (Rows.wordsTellsSpec.post enc Try.prog Try.f8 false true false false) := by
  refine returnsInHanded_of_change (C := Try.checked) own started (by kernel_rfl) Try.func8
    (ChangeSpec.witness6 (enc := enc) (C := Try.checked) false ⟨#[], #[.agg #[.int .u64 0, .int .u64 0, .int .u64 0, .int .u64 0], .int .i64 0, .int .u64 0, .string ByteArray.empty], []⟩ 8 (by kernel_rfl) (by kernel_rfl) (by kernel_rfl) (by kernel_rfl)) ?_
  intro W base args ds gs before hval0 hW hcnd _
  have hval : ∀ (j : Nat) t v, Try.f8.params[j]? = some t → args[j]? = some v → Value.okWide Try.prog W .any base t v := hval0
  have hW' := hW
  obtain ⟨p, q, hA0, hV, rfl, hfz, hnd⟩ := hW
  have hA : DataW.TrodAll enc Try.prog W 0 (fun _ => true) true Try.f8.params.toList args.toList ds p := hA0
  rw [Try.params8] at hA hval
  obtain ⟨v0, vs0, d0, ds0, p0, q0, hargs, rfl, rfl, h0, r0⟩ := trodAll_cons hA
  obtain ⟨v1, vs1, d1, ds1, p1, q1, rfl, rfl, rfl, h1, r1⟩ := trodAll_cons r0
  obtain ⟨v2, vs2, d2, ds2, p2, q2, rfl, rfl, rfl, h2, r2⟩ := trodAll_cons r1
  obtain ⟨v3, vs3, d3, ds3, p3, q3, rfl, rfl, rfl, h3, r3⟩ := trodAll_cons r2
  obtain ⟨rfl, rfl, rfl⟩ := trodAll_nil r3
  obtain rfl : args = #[v0, v1, v2, v3] := by cases args; simp_all
  obtain ⟨rfl, rfl⟩ := trodVars_none hV
  have k0 := h0
  have lt0 : ∀ x ∈ p0, x.block < W.heap.size := by obtain ⟨m, hm⟩ := k0; exact DataW.trod_lt m _ _ _ hm
  have k1 := h1
  have lt1 : ∀ x ∈ p1, x.block < W.heap.size := by obtain ⟨m, hm⟩ := k1; exact DataW.trod_lt m _ _ _ hm
  have k2 := h2
  have lt2 : ∀ x ∈ p2, x.block < W.heap.size := by obtain ⟨m, hm⟩ := k2; exact DataW.trod_lt m _ _ _ hm
  have k3 := h3
  have lt3 : ∀ x ∈ p3, x.block < W.heap.size := by obtain ⟨m, hm⟩ := k3; exact DataW.trod_lt m _ _ _ hm
  obtain ⟨cs0, rfl, al0⟩ := open_flat (n := 4) [.int .u64, .int .u64, .int .u64, .int .u64] (by kernel_rfl) (by kernel_rfl) (.inr ⟨_, _, Try.underlying29⟩) (hval 0 29 v0 rfl rfl) h0
  obtain ⟨a0x, a0y, a0z, a0u, rfl, w0x, w0y, w0z, w0u⟩ := all2_line al0
  obtain ⟨a1, rfl, rfl, rfl, w1⟩ := open_int Try.underlying3 (hval 1 3 v1 rfl rfl) h1
  obtain ⟨a2, rfl, rfl, rfl, w2⟩ := open_int Try.underlying27 (hval 2 27 v2 rfl rfl) h2
  obtain ⟨a3, rfl, rfl, rfl, w3⟩ := open_string Try.underlying9 (hval 3 9 v3 rfl rfl) h3
  clear hA0 hval0
  refine (walk a0x a0y a0z a0u a1 a2 a3 W w0x w0y w0z w0u w1 w2 w3).mono fun e W' ⟨he, bel⟩ => ?_
  subst he
  exact ⟨_, rfl, _, _, _, [], _, [], hW', trodAll_mk1 (shut_bool Try.underlying4 _), (trodAll_cons_mk (Below.trod laidOut (by kernel_rfl) (of_decide_eq_true (by kernel_rfl)) k0 bel lt0) (trodAll_cons_mk (Below.trod laidOut (by kernel_rfl) (of_decide_eq_true (by kernel_rfl)) k1 bel lt1) (trodAll_cons_mk (Below.trod laidOut (by kernel_rfl) (of_decide_eq_true (by kernel_rfl)) k2 bel lt2) (trodAll_cons_mk (Below.trod laidOut (by kernel_rfl) (of_decide_eq_true (by kernel_rfl)) k3 bel lt3) trodAll_mk0)))), rfl, bel.frame _, fun h => by cases h⟩

theorem over : Rows.wordsTellsRow.holds Try.pinned (OpenSpec.ofChange Rows.wordsTellsSpec) :=
  OpenClaim.holds_of_wide 8 Try.f8 rfl rfl rfl rfl rfl rfl rfl ⟨rfl, rfl, rfl, rfl, rfl⟩ rfl rfl rfl rfl rfl (by kernel_rfl) Try.func8 (by kernel_rfl)
    (of_decide_eq_true (by kernel_rfl)) (by unfold Func.isWrapper; first | (rw [if_pos (by decide +kernel)]; kernel_rfl) | (rw [if_neg (by decide +kernel)]; exact ⟨rfl, rfl⟩))
    (fun os started H enc _ => lifted os started H enc)

theorem proved : Rows.WordsTellsSaid := over

end Go.Proofs.Ytffhfpdmfegcpaa.wordsTells
