/- ringdovekeep.BankReads: for every memory, address and word, the call returns true. -/
import Derived.Test.YtffhfpdmfegcpaaBankSame
import Derived.Test.YtffhfpdmfegcpaaGood
import Derived.Test.YtffhfpdmfegcpaaEqInt
namespace Go.Proofs.Ytffhfpdmfegcpaa.bankReads
open Go.ChangeShapes Go.WideShapes Go.ChangeAt Go.RowKit
open Go.ChangeMaps (open_string shut_string)
open Go.Proofs.Ytffhfpdmfegcpaa.base Go.Proofs.Ytffhfpdmfegcpaa.knob Go.Proofs.Ytffhfpdmfegcpaa.flat Go.Proofs.Ytffhfpdmfegcpaa.same Go.Proofs.Ytffhfpdmfegcpaa.addr Go.Proofs.Ytffhfpdmfegcpaa.bank Go.Proofs.Ytffhfpdmfegcpaa.bankSame
set_option linter.unusedVariables false
set_option linter.unusedSimpArgs false

def zeroXs : List Int := List.replicate 64 0
theorem zeroXs_len : zeroXs.length = 64 := by decide
theorem zero_is : (#[.int .u64 0, .int .u64 0, .int .u64 0, .int .u64 0, .int .u64 0, .int .u64 0, .int .u64 0, .int .u64 0, .int .u64 0, .int .u64 0, .int .u64 0, .int .u64 0, .int .u64 0, .int .u64 0, .int .u64 0, .int .u64 0, .int .u64 0, .int .u64 0, .int .u64 0, .int .u64 0, .int .u64 0, .int .u64 0, .int .u64 0, .int .u64 0, .int .u64 0, .int .u64 0, .int .u64 0, .int .u64 0, .int .u64 0, .int .u64 0, .int .u64 0, .int .u64 0, .int .u64 0, .int .u64 0, .int .u64 0, .int .u64 0, .int .u64 0, .int .u64 0, .int .u64 0, .int .u64 0, .int .u64 0, .int .u64 0, .int .u64 0, .int .u64 0, .int .u64 0, .int .u64 0, .int .u64 0, .int .u64 0, .int .u64 0, .int .u64 0, .int .u64 0, .int .u64 0, .int .u64 0, .int .u64 0, .int .u64 0, .int .u64 0, .int .u64 0, .int .u64 0, .int .u64 0, .int .u64 0, .int .u64 0, .int .u64 0, .int .u64 0, .int .u64 0] : Array Value) = memA zeroXs := zero_mem

theorem allW_mem {xs : List Int} (h : ∀ x ∈ xs, (Lit.int .u64 x).wf = true) : AllW (List.replicate xs.length (.int .u64)) (xs.map (Value.int .u64)) := by
  induction xs with
  | nil => trivial
  | cons x xs ih => exact ⟨⟨x, rfl, h x (by simp)⟩, ih (fun y hy => h y (by simp [hy]))⟩
theorem run_eq_mem (w : World) (xs ys : List Int) (hx : xs.length = 64) (hy : ys.length = 64) (wx : ∀ x ∈ xs, (Lit.int .u64 x).wf = true) (wy : ∀ x ∈ ys, (Lit.int .u64 x).wf = true) :
    (Op.equalIn 10000 76 (.agg (memA xs)) (.agg (memA ys))).run Try.prog w = .ok (eqv (xs.map (Value.int .u64)) (ys.map (Value.int .u64))) w :=
  run_equalIn_flat w 4 _ (List.replicate 64 (.int .u64)) (by kernel_rfl) (by kernel_rfl) (by kernel_rfl) (by omega) (.inr ⟨_, _, Try.underlying76⟩) _ _ (by have := allW_mem wx; rwa [hx] at this) (by have := allW_mem wy; rwa [hy] at this)
theorem zeroXs_wf : ∀ x ∈ zeroXs, (Lit.int .u64 x).wf = true := by decide
theorem run_zero_mem (w : World) : (Op.equalIn 10000 76 (.agg (memA zeroXs)) (.agg #[.int .u64 0, .int .u64 0, .int .u64 0, .int .u64 0, .int .u64 0, .int .u64 0, .int .u64 0, .int .u64 0, .int .u64 0, .int .u64 0, .int .u64 0, .int .u64 0, .int .u64 0, .int .u64 0, .int .u64 0, .int .u64 0, .int .u64 0, .int .u64 0, .int .u64 0, .int .u64 0, .int .u64 0, .int .u64 0, .int .u64 0, .int .u64 0, .int .u64 0, .int .u64 0, .int .u64 0, .int .u64 0, .int .u64 0, .int .u64 0, .int .u64 0, .int .u64 0, .int .u64 0, .int .u64 0, .int .u64 0, .int .u64 0, .int .u64 0, .int .u64 0, .int .u64 0, .int .u64 0, .int .u64 0, .int .u64 0, .int .u64 0, .int .u64 0, .int .u64 0, .int .u64 0, .int .u64 0, .int .u64 0, .int .u64 0, .int .u64 0, .int .u64 0, .int .u64 0, .int .u64 0, .int .u64 0, .int .u64 0, .int .u64 0, .int .u64 0, .int .u64 0, .int .u64 0, .int .u64 0, .int .u64 0, .int .u64 0, .int .u64 0, .int .u64 0])).run Try.prog w = .ok true w := by
  rw [zero_is, run_eq_mem w zeroXs zeroXs zeroXs_len zeroXs_len zeroXs_wf zeroXs_wf, eqv_true rfl]

theorem poke_bad' (xs : List Int) (hl : xs.length = 64) (a v : Int) (w : World) (h : ¬ (0 ≤ a ∧ a ≤ 63)) :
    Calls Try.prog 48 #[.agg (memA xs), .int .i64 a, .int .u64 v] w (Ret (.tuple #[.agg (memA zeroXs), .int .i64 4]) w) := poke_bad xs hl a v w h

set_option maxHeartbeats 1000000 in
set_option maxRecDepth 100000 in
theorem new_any (w : World) : Calls Try.prog 68 #[] w (Ret (.agg (memA zeroXs)) w) := by
  go_enter Try.func68, Try.ntmps68
  go_wp2_with (refine wpList_store_r rfl 76 _ _ rfl _ rfl _ rfl 64 (by kernel_rfl) (by (simp only [go_sem, zero_size]; simp; done)) zero_size zero_one ?_; intro W hW; simp [go_sem] at hW; subst hW)
  refine bodyPost_ret (results_row rfl _ _ _ 64 _ rfl Try.underlying76 rfl (by kernel_rfl) (by simp only [go_sem, zero_size]; simp; done) (memA zeroXs) ?_) rfl ⟨rfl, ?_⟩
  · rw [rowOf_new _ _ (by simp)]
    exact zero_is
  · repeat (first | exact Below.refl _ _ | apply bs_later | apply bs_alloc | apply bs_drew | apply bs_drewN)

set_option maxHeartbeats 1000000 in
set_option maxRecDepth 100000 in
theorem banks (w : World) : Calls Try.prog 47 #[] w (Ret (.bool true) w) := by
  have hl : (zeroXs.set (5 : Int).toNat 9).length = 64 := by decide
  have s0 : (memA (zeroXs.set (5 : Int).toNat 9)).size = 64 := by rw [size_memA, hl]
  have h1 := memA_one (zeroXs.set (5 : Int).toNat 9)
  have hc : (memA (zeroXs.set (5 : Int).toNat 9))[5]? = some (.int .u64 9) := memA_at (by decide)
  have hc2 : ∀ h, (memA (zeroXs.set (5 : Int).toNat 9))[5]'h = .int .u64 9 := fun h => by
    rw [Array.getElem?_eq_getElem h] at hc; exact Option.some.inj hc
  have P := fun w => poke_ok zeroXs zeroXs_len 5 9 w (by omega) (by omega)
  have HP := Lib.hid P
  generalize zeroXs.set (5 : Int).toNat 9 = ys at *
  have H1 := Lib.hid h1
  clear P hl h1
  go_enter Try.func47, Try.ntmps47
  go_wp2_with (first
    | (refine wpList_store_r rfl 76 _ _ rfl _ rfl _ rfl 64 (by kernel_rfl) (by (simp only [go_sem, zero_size]; simp; done)) s0 H1.out ?_; intro W hW; simp [go_sem] at hW; subst hW)
    | (go_at_call 68; refine (new_any _).mono ?_; rintro e w1 ⟨rfl, hb1⟩; obtain ⟨l1, d1, rfl⟩ := later_of hb1; clear hb1)
    | (go_at_call 48; refine (HP.out _).mono ?_; rintro e w1 ⟨rfl, hb1⟩; obtain ⟨l1, d1, rfl⟩ := later_of hb1; clear hb1))
  go_ret
  exact ⟨rfl, by repeat (first | exact Below.refl _ _ | apply bs_later | apply bs_alloc | apply bs_drew | apply bs_drewN)⟩

/-! ### the plain law -/
theorem wordV_set {xs : List Int} (hl : xs.length = 64) (a v : Int) (h0 : 0 ≤ a) (h3 : a ≤ 63) (b : Int) : wordV (xs.set a.toNat v) b = if b = a then v else wordV xs b := by
  unfold wordV
  by_cases hb : 0 ≤ b ∧ b ≤ 63
  · rw [if_pos hb, if_pos hb]
    simp only [List.getD_eq_getElem?_getD, List.getElem?_set]
    by_cases h : b = a
    · subst h
      rw [if_pos rfl, if_pos (by omega), if_pos rfl]; rfl
    · rw [if_neg h, if_neg (by omega)]
  · rw [if_neg hb, if_neg hb, if_neg (by omega)]
theorem diffs_set {xs : List Int} (hl : xs.length = 64) (a v : Int) (h0 : 0 ≤ a) (h3 : a ≤ 63) : ∀ k : Nat, diffs xs (xs.set a.toNat v) k = if a < (k : Int) ∧ ¬ wordV xs a = v then [a] else []
  | 0 => by rw [if_neg (by omega)]; rfl
  | k + 1 => by
    have ih := diffs_set hl a v h0 h3 k
    by_cases hk : (k : Int) = a
    · by_cases hv : wordV xs a = v
      · rw [diffs_eq (by rw [wordV_set hl a v h0 h3, if_pos hk, hk]; exact hv), ih, if_neg (fun h => h.2 hv), if_neg (fun h => h.2 hv)]
      · rw [diffs_ne (by rw [wordV_set hl a v h0 h3, if_pos hk, hk]; exact hv), ih, if_neg (by omega), if_pos ⟨by omega, hv⟩, hk]; rfl
    · rw [diffs_eq (by rw [wordV_set hl a v h0 h3, if_neg hk]), ih]
      congr 1
      simp only [eq_iff_iff]
      constructor <;> rintro ⟨h, h'⟩ <;> exact ⟨by omega, h'⟩

theorem two_ok {w : World} {n : Nat} (h : n = w.heap.size) : ∀ i, i < 2 → (w.alloc (.cells #[.int .i64 0, .int .i64 0] 22)).cell? ⟨n, i, none⟩ = some (.int .i64 0) := by
  intro i hi
  rw [World.cell?_alloc_at _ _ _ _ h]
  obtain rfl | rfl : i = 0 ∨ i = 1 := by omega
  all_goals rfl

set_option maxHeartbeats 1000000 in
set_option maxRecDepth 100000 in
theorem walk_bad (xs : List Int) (hl : xs.length = 64) (a v : Int) (w : World) (h : ¬ (0 ≤ a ∧ a ≤ 63)) :
    Calls Try.prog 13 #[.agg (memA xs), .int .i64 a, .int .u64 v] w (Ret (.bool true) w) := by
  have s0 : (memA xs).size = 64 := by rw [size_memA, hl]
  have s1 : (memA zeroXs).size = 64 := by rw [size_memA, zeroXs_len]
  have P := fun w => poke_bad' xs hl a v w h
  have HP := Lib.hid P
  have HE := run_zero_mem
  clear P hl h
  go_enter Try.func13, Try.ntmps13
  go_wp2_with (first
    | (refine wpList_load_r rfl 76 _ rfl _ rfl 64 _ Try.underlying76 rfl (by kernel_rfl) (by (simp [go_sem, s0, s1]; done)) ?_; intro C hC; simp [go_sem] at hC; subst hC)
    | (refine wpList_store_r rfl 76 _ _ rfl _ rfl _ rfl 64 (by kernel_rfl) (by (simp only [go_sem, zero_size]; simp; done)) s1 (memA_one _) ?_; intro W hW; simp [go_sem] at hW; subst hW)
    | (go_at_call 47; refine (banks _).mono ?_; rintro e w1 ⟨rfl, hb1⟩; obtain ⟨l1, d1, rfl⟩ := later_of hb1; clear hb1)
    | (go_at_call 48; refine (HP.out _).mono ?_; rintro e w1 ⟨rfl, hb1⟩; obtain ⟨l1, d1, rfl⟩ := later_of hb1; clear hb1))
  go_ret
  exact ⟨rfl, by repeat (first | exact Below.refl _ _ | apply bs_later | apply bs_alloc | apply bs_drew | apply bs_drewN)⟩

set_option maxHeartbeats 2000000 in
set_option maxRecDepth 100000 in
theorem walk_ok (xs : List Int) (hl : xs.length = 64) (a v : Int) (w : World) (h0 : 0 ≤ a) (h3 : a ≤ 63) :
    Calls Try.prog 13 #[.agg (memA xs), .int .i64 a, .int .u64 v] w (Ret (.bool true) w) := by
  obtain ⟨ys, hys⟩ : ∃ ys, xs.set a.toNat v = ys := ⟨_, rfl⟩
  have hly : ys.length = 64 := by rw [← hys, List.length_set, hl]
  have s0 : (memA xs).size = 64 := by rw [size_memA, hl]
  have s1 : (memA ys).size = 64 := by rw [size_memA, hly]
  have P := fun w => poke_ok xs hl a v w h0 h3
  rw [hys] at P
  have e0 : lineE a = 0 := if_pos ⟨h0, h3⟩
  have e1 : wordV ys a = v := by rw [← hys, wordV_set hl a v h0 h3, if_pos rfl]
  have D := diffs_set hl a v h0 h3 64
  rw [hys] at D
  have HP := Lib.hid P
  have HX := Lib.hid hl
  have HY := Lib.hid hly
  clear P hys hl hly
  by_cases hv : wordV xs a = v
  · rw [if_neg (fun h => h.2 hv)] at D
    have S := fun w => same_any xs ys HX.out HY.out w
    rw [D] at S
    have HS := Lib.hid S
    have hv' : (wordV xs a == v) = true := by simpa using hv
    clear S D hv
    go_enter Try.func13, Try.ntmps13
    go_wp2_with (first
      | (refine wpList_load_r rfl 76 _ rfl _ rfl 64 _ Try.underlying76 rfl (by kernel_rfl) (by (simp [go_sem, s0, s1]; done)) ?_; intro C hC; simp [go_sem] at hC; subst hC)
      | (refine wpList_store_r rfl 76 _ _ rfl _ rfl _ rfl 64 (by kernel_rfl) (by (simp only [go_sem, zero_size]; simp; done)) s1 (memA_one _) ?_; intro W hW; simp [go_sem] at hW; subst hW)
      | (go_at_call 47; refine (banks _).mono ?_; rintro e w1 ⟨rfl, hb1⟩; obtain ⟨l1, d1, rfl⟩ := later_of hb1; clear hb1)
      | (go_at_call 48; refine (HP.out _).mono ?_; rintro e w1 ⟨rfl, hb1⟩; obtain ⟨l1, d1, rfl⟩ := later_of hb1; clear hb1)
      | (go_at_call 49; (first | (with_reducible refine (word_any xs HX.out _ _).mono ?_) | (with_reducible refine (word_any ys HY.out _ _).mono ?_)); rintro e w1 ⟨rfl, hb1⟩; obtain ⟨l1, d1, rfl⟩ := later_of hb1; clear hb1)
      | (go_at_call 50; refine (HS.out _).mono ?_; rintro e w1 ⟨sv, rfl, hown, hb1⟩; obtain ⟨l1, d1, rfl⟩ := later_of hb1; have HO := Lib.hid hown; obtain ⟨sa, sc, hsv⟩ := own_form hown; subst hsv; clear hb1 hown)
      | (go_at_call 21; refine (goods.good_ok _ _ _ _ (by decide) (two_ok (by simp))).mono ?_; rintro e w1 ⟨rfl, rfl⟩))
    go_ret
    exact ⟨rfl, by repeat (first | exact Below.refl _ _ | apply bs_later | apply bs_alloc | apply bs_drew | apply bs_drewN)⟩
  · rw [if_pos ⟨by omega, hv⟩] at D
    have S := fun w => same_any xs ys HX.out HY.out w
    rw [D] at S
    have HS := Lib.hid S
    have hv' : (wordV xs a == v) = false := by simpa using hv
    clear S D hv
    go_enter Try.func13, Try.ntmps13
    go_wp2_with (first
      | (refine wpList_load_r rfl 76 _ rfl _ rfl 64 _ Try.underlying76 rfl (by kernel_rfl) (by (simp [go_sem, s0, s1]; done)) ?_; intro C hC; simp [go_sem] at hC; subst hC)
      | (refine wpList_store_r rfl 76 _ _ rfl _ rfl _ rfl 64 (by kernel_rfl) (by (simp only [go_sem, zero_size]; simp; done)) s1 (memA_one _) ?_; intro W hW; simp [go_sem] at hW; subst hW)
      | (go_at_call 47; refine (banks _).mono ?_; rintro e w1 ⟨rfl, hb1⟩; obtain ⟨l1, d1, rfl⟩ := later_of hb1; clear hb1)
      | (go_at_call 48; refine (HP.out _).mono ?_; rintro e w1 ⟨rfl, hb1⟩; obtain ⟨l1, d1, rfl⟩ := later_of hb1; clear hb1)
      | (go_at_call 49; (first | (with_reducible refine (word_any xs HX.out _ _).mono ?_) | (with_reducible refine (word_any ys HY.out _ _).mono ?_)); rintro e w1 ⟨rfl, hb1⟩; obtain ⟨l1, d1, rfl⟩ := later_of hb1; clear hb1)
      | (go_at_call 50; refine (HS.out _).mono ?_; rintro e w1 ⟨sv, rfl, hown, hb1⟩; obtain ⟨l1, d1, rfl⟩ := later_of hb1; have HO := Lib.hid hown; obtain ⟨sa, sc, hsv⟩ := own_form hown; subst hsv; clear hb1 hown)
      | (go_at_call 21; refine (goods.good_ok _ _ _ _ (by decide) (two_ok (by simp))).mono ?_; rintro e w1 ⟨rfl, rfl⟩))
    refine (eqInt.equal_same sa _ sc 1 _ [a] [a] rfl (by unfold maxLen; simp) ?_ ?_).mono ?_
    · exact (own_ints ((HO.out.alloc _).alloc _)).2
    · refine .inr ⟨_, _, rfl, fun i x h => ?_⟩
      rw [World.cell?_alloc_at _ _ _ _ (by simp)]
      exact arr_at h
    rintro e w1 ⟨rfl, n, rfl⟩
    rw [decide_eq_true rfl]
    go_wp2
    go_ret
    exact ⟨rfl, by repeat (first | exact Below.refl _ _ | apply bs_later | apply bs_alloc | apply bs_drew | apply bs_drewN)⟩

theorem walk (xs : List Int) (a v : Int) (w : World) (hl : xs.length = 64) (wx : ∀ x ∈ xs, (Lit.int .u64 x).wf = true) (wa : (Lit.int .i64 a).wf = true) (wv : (Lit.int .u64 v).wf = true) :
    Calls Try.prog 13 #[.agg (xs.map (Value.int .u64)).toArray, .int .i64 a, .int .u64 v] w (Ret (.bool true) w) := by
  by_cases h : 0 ≤ a ∧ a ≤ 63
  · exact walk_ok xs hl a v w h.1 h.2
  · exact walk_bad xs hl a v w h

-- the frame, by program
set_option maxRecDepth 100000 in
theorem lifted (os : Os) (started : os.Started) (H : Type) (enc : TypeId × Value → H) :
    ReturnsInHanded {} Try.checked os 13 .any (Rows.bankReadsSpec.pre6 enc Try.prog Try.f13 Rows.bankReadsRow.domain false) (Rows.bankReadsSpec.post enc Try.prog Try.f13 false true false false) := by
  refine returnsInHanded_of_change (C := Try.checked) own started (by kernel_rfl) Try.func13
    (ChangeSpec.witness6 (enc := enc) (C := Try.checked) false ⟨#[], #[.agg (Array.replicate 64 (.int .u64 0)), .int .i64 0, .int .u64 0], []⟩ 8 (by kernel_rfl) (by kernel_rfl) (by kernel_rfl) (by kernel_rfl)) ?_
  intro W base args ds gs before hval0 hW hcnd _
  have hval : ∀ (j : Nat) t v, Try.f13.params[j]? = some t → args[j]? = some v → Value.okWide Try.prog W .any base t v := hval0
  have hW' := hW
  obtain ⟨p, q, hA0, hV, rfl, hfz, hnd⟩ := hW
  have hA : DataW.TrodAll enc Try.prog W 0 (fun _ => true) true Try.f13.params.toList args.toList ds p := hA0
  rw [Try.params13] at hA hval
  obtain ⟨v0, vs0, d0, ds0, p0, q0, hargs, rfl, rfl, h0, r0⟩ := trodAll_cons hA
  obtain ⟨v1, vs1, d1, ds1, p1, q1, rfl, rfl, rfl, h1, r1⟩ := trodAll_cons r0
  obtain ⟨v2, vs2, d2, ds2, p2, q2, rfl, rfl, rfl, h2, r2⟩ := trodAll_cons r1
  obtain ⟨rfl, rfl, rfl⟩ := trodAll_nil r2
  obtain rfl : args = #[v0, v1, v2] := by cases args; simp_all
  obtain ⟨rfl, rfl⟩ := trodVars_none hV
  have k0 := h0
  have lt0 : ∀ x ∈ p0, x.block < W.heap.size := by obtain ⟨m, hm⟩ := k0; exact DataW.trod_lt m _ _ _ hm
  have k1 := h1
  have lt1 : ∀ x ∈ p1, x.block < W.heap.size := by obtain ⟨m, hm⟩ := k1; exact DataW.trod_lt m _ _ _ hm
  have k2 := h2
  have lt2 : ∀ x ∈ p2, x.block < W.heap.size := by obtain ⟨m, hm⟩ := k2; exact DataW.trod_lt m _ _ _ hm
  obtain ⟨cs0, rfl, al0⟩ := open_flat (n := 4) (List.replicate 64 (.int .u64)) (by kernel_rfl) (by kernel_rfl) (.inr ⟨_, _, Try.underlying76⟩) (hval 0 76 v0 rfl rfl) h0
  obtain ⟨a0, l0, rfl, w0⟩ := all2_ints al0
  obtain ⟨a1, rfl, rfl, rfl, w1⟩ := open_int Try.underlying3 (hval 1 3 v1 rfl rfl) h1
  obtain ⟨a2, rfl, rfl, rfl, w2⟩ := open_int Try.underlying27 (hval 2 27 v2 rfl rfl) h2
  clear hA0 hval0
  refine (walk a0 a1 a2 W l0 w0 w1 w2).mono fun e W' ⟨he, bel⟩ => ?_
  subst he
  exact ⟨_, rfl, _, _, _, [], _, [], hW', trodAll_mk1 (shut_bool Try.underlying4 _), (trodAll_cons_mk (Below.trod laidOut (by kernel_rfl) (of_decide_eq_true (by kernel_rfl)) k0 bel lt0) (trodAll_cons_mk (Below.trod laidOut (by kernel_rfl) (of_decide_eq_true (by kernel_rfl)) k1 bel lt1) (trodAll_cons_mk (Below.trod laidOut (by kernel_rfl) (of_decide_eq_true (by kernel_rfl)) k2 bel lt2) trodAll_mk0))), rfl, bel.frame _, fun h => by cases h⟩

theorem over : Rows.bankReadsRow.holds Try.pinned (OpenSpec.ofChange Rows.bankReadsSpec) :=
  OpenClaim.holds_of_wide 13 Try.f13 rfl rfl rfl rfl rfl rfl rfl ⟨rfl, rfl, rfl, rfl, rfl⟩ rfl rfl rfl rfl rfl (by kernel_rfl) Try.func13 (by kernel_rfl)
    (of_decide_eq_true (by kernel_rfl)) (by unfold Func.isWrapper; first | (rw [if_pos (by decide +kernel)]; kernel_rfl) | (rw [if_neg (by decide +kernel)]; exact ⟨rfl, rfl⟩))
    (fun os started H enc _ => lifted os started H enc)

theorem proved : Rows.BankReadsSaid := over

end Go.Proofs.Ytffhfpdmfegcpaa.bankReads
