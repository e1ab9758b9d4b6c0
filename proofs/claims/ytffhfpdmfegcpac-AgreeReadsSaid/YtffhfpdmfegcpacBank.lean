/- Contracts of package bank: Word, Poke and Same at any memory. -/
import Derived.Test.YtffhfpdmfegcpacMem
import Derived.Test.YtffhfpdmfegcpacWords
import Derived.Test.YtffhfpdmfegcpacAddr
namespace Go.Proofs.Ytffhfpdmfegcpac.bank
open Go.ChangeShapes Go.WideShapes Go.ChangeAt Go.RowKit
open Go.Proofs.Ytffhfpdmfegcpac.base Go.Proofs.Ytffhfpdmfegcpac.flat Go.Proofs.Ytffhfpdmfegcpac.same Go.Proofs.Ytffhfpdmfegcpac.words Go.Proofs.Ytffhfpdmfegcpac.addr
set_option linter.unusedVariables false
set_option linter.unusedSimpArgs false

/-- a memory's cells -/
def memA (xs : List Int) : Array Value := (xs.map (Value.int .u64)).toArray
theorem size_memA (xs : List Int) : (memA xs).size = xs.length := by simp [memA]
theorem memA_at {xs : List Int} {i : Nat} {x : Int} (h : xs[i]? = some x) : (memA xs)[i]? = some (.int .u64 x) := by simp [memA, h]
theorem memA_one (xs : List Int) : (memA xs).all (·.oneCell') = true := by
  rw [Array.all_eq_true_iff_forall_mem]
  intro v hv
  simp only [memA, List.mem_toArray, List.mem_map] at hv
  obtain ⟨x, _, rfl⟩ := hv
  rfl

theorem all_set {C : Array Value} (h : C.all (·.oneCell') = true) (i : Nat) {v : Value} (hv : v.oneCell' = true) : (C.setIfInBounds i v).all (·.oneCell') = true := by
  rw [Array.all_eq_true_iff_forall_mem] at *
  intro u hu
  rcases Array.mem_or_eq_of_mem_setIfInBounds hu with h1 | h1
  · exact h u h1
  · subst h1; exact hv
/-- the word at an address -/
def wordV (xs : List Int) (a : Int) : Int := if 0 ≤ a ∧ a ≤ 63 then xs.getD a.toNat 0 else 0

set_option maxHeartbeats 1000000 in
set_option maxRecDepth 100000 in
theorem word_any (xs : List Int) (hl : xs.length = 64) (a : Int) (w : World) :
    Calls Try.prog 71 #[.agg (memA xs), .int .i64 a] w (Ret (.tuple #[.int .u64 (wordV xs a), .int .i64 (lineE a)]) w) := by
  by_cases h : 0 ≤ a ∧ a ≤ 63
  · have e1 : lineQ a = ((a.toNat / 4 : Nat) : Int) := by unfold lineQ; rw [if_pos h]; omega
    have e2 : lineR a = ((a.toNat % 4 : Nat) : Int) := by unfold lineR; rw [if_pos h]; omega
    have e3 : lineE a = 0 := if_pos h
    obtain ⟨x, hx⟩ := get_some (xs := xs) (k := a.toNat) (by omega)
    have e4 : wordV xs a = x := by unfold wordV; rw [if_pos h, List.getD_eq_getElem?_getD, hx]; rfl
    have hq : a.toNat / 4 < 16 := by omega
    have hr : a.toNat % 4 < 4 := by omega
    have hc : (memA xs)[a.toNat / 4 * 4 + a.toNat % 4]? = some (.int .u64 x) := memA_at (by rw [show a.toNat / 4 * 4 + a.toNat % 4 = a.toNat by omega]; exact hx)
    rw [e3, e4]
    generalize a.toNat / 4 = q at *
    generalize a.toNat % 4 = r at *
    clear hx e4 h hl
    go_enter Try.func71, Try.ntmps71
    go_wp2_with (go_at_call 70; refine (line_any _ _).mono ?_; rintro e w1 ⟨rfl, rfl⟩)
    go_ret2
    exact ⟨rfl, by repeat (first | exact Below.refl _ _ | apply bs_later | apply bs_alloc | apply bs_drew | apply bs_drewN)⟩
  · have e1 : lineQ a = 0 := if_neg h
    have e2 : lineR a = 0 := if_neg h
    have e3 : lineE a = 4 := if_neg h
    have e4 : wordV xs a = 0 := if_neg h
    rw [e3, e4]
    clear h hl e4
    go_enter Try.func71, Try.ntmps71
    go_wp2_with (go_at_call 70; refine (line_any _ _).mono ?_; rintro e w1 ⟨rfl, rfl⟩)
    go_ret2
    exact ⟨rfl, by repeat (first | exact Below.refl _ _ | apply bs_later | apply bs_alloc | apply bs_drew | apply bs_drewN)⟩

theorem set_same {C : Array Value} {i : Nat} {v : Value} (h : C[i]? = some v) : C.setIfInBounds i v = C := by
  apply Array.ext_getElem?
  intro j
  rw [Array.getElem?_setIfInBounds]
  split
  · rename_i e; subst e
    have hi : i < C.size := (Array.getElem?_eq_some_iff.1 h).1
    rw [if_pos hi, h]
  · rfl
theorem set_ne {C : Array Value} {i j : Nat} {v u : Value} (h : C[j]? = some u) (hne : i ≠ j) : (C.setIfInBounds i v)[j]? = some u := by
  rw [Array.getElem?_setIfInBounds, if_neg hne]; exact h
theorem memA_set (xs : List Int) (i : Nat) (v : Int) : memA (xs.set i v) = (memA xs).setIfInBounds i (.int .u64 v) := by
  unfold memA
  rw [List.map_set, ← List.setIfInBounds_toArray]
theorem poke_cells (xs : List Int) (q r : Nat) (v x0 x1 x2 x3 : Int) (hr : r < 4) (c0 : (memA xs)[q * 4]? = some (.int .u64 x0)) (c1 : (memA xs)[q * 4 + 1]? = some (.int .u64 x1)) (c2 : (memA xs)[q * 4 + 2]? = some (.int .u64 x2)) (c3 : (memA xs)[q * 4 + 3]? = some (.int .u64 x3)) :
    ((((memA xs).setIfInBounds (q * 4) (.int .u64 (lset 0 r v x0))).setIfInBounds (q * 4 + 1) (.int .u64 (lset 1 r v x1))).setIfInBounds (q * 4 + 2) (.int .u64 (lset 2 r v x2))).setIfInBounds (q * 4 + 3) (.int .u64 (lset 3 r v x3)) = memA (xs.set (q * 4 + r) v) := by
  rw [memA_set]
  obtain rfl | rfl | rfl | rfl : r = 0 ∨ r = 1 ∨ r = 2 ∨ r = 3 := by omega
  · rw [show lset 0 (0 : Nat) v x0 = v from rfl, show lset 1 (0 : Nat) v x1 = x1 from rfl, show lset 2 (0 : Nat) v x2 = x2 from rfl, show lset 3 (0 : Nat) v x3 = x3 from rfl, Nat.add_zero,
      set_same (set_ne c1 (by omega)), set_same (set_ne c2 (by omega)), set_same (set_ne c3 (by omega))]
    rfl
  · rw [show lset 0 (1 : Nat) v x0 = x0 from rfl, show lset 1 (1 : Nat) v x1 = v from rfl, show lset 2 (1 : Nat) v x2 = x2 from rfl, show lset 3 (1 : Nat) v x3 = x3 from rfl,
      set_same c0, set_same (set_ne c2 (by omega)), set_same (set_ne c3 (by omega))]
  · rw [show lset 0 (2 : Nat) v x0 = x0 from rfl, show lset 1 (2 : Nat) v x1 = x1 from rfl, show lset 2 (2 : Nat) v x2 = v from rfl, show lset 3 (2 : Nat) v x3 = x3 from rfl,
      set_same c0, set_same c1, set_same (set_ne c3 (by omega))]
  · rw [show lset 0 (3 : Nat) v x0 = x0 from rfl, show lset 1 (3 : Nat) v x1 = x1 from rfl, show lset 2 (3 : Nat) v x2 = x2 from rfl, show lset 3 (3 : Nat) v x3 = v from rfl,
      set_same c0, set_same c1, set_same c2]

set_option maxHeartbeats 2000000 in
set_option maxRecDepth 100000 in
theorem poke_ok (xs : List Int) (hl : xs.length = 64) (a v : Int) (w : World) (h0 : 0 ≤ a) (h3 : a ≤ 63) :
    Calls Try.prog 72 #[.agg (memA xs), .int .i64 a, .int .u64 v] w (Ret (.tuple #[.agg (memA (xs.set a.toNat v)), .int .i64 0]) w) := by
  have h : 0 ≤ a ∧ a ≤ 63 := ⟨h0, h3⟩
  have e1 : lineQ a = ((a.toNat / 4 : Nat) : Int) := by unfold lineQ; rw [if_pos h]; omega
  have e2 : lineR a = ((a.toNat % 4 : Nat) : Int) := by unfold lineR; rw [if_pos h]; omega
  have e3 : lineE a = 0 := if_pos h
  have hq : a.toNat / 4 < 16 := by omega
  have hr : a.toNat % 4 < 4 := by omega
  have hqr : a.toNat = a.toNat / 4 * 4 + a.toNat % 4 := by omega
  generalize hq' : a.toNat / 4 = q at *
  generalize hr' : a.toNat % 4 = r at *
  rw [hqr]
  clear hq' hr' hqr
  obtain ⟨x0, hx0⟩ := get_some (xs := xs) (k := q * 4) (by omega)
  obtain ⟨x1, hx1⟩ := get_some (xs := xs) (k := q * 4 + 1) (by omega)
  obtain ⟨x2, hx2⟩ := get_some (xs := xs) (k := q * 4 + 2) (by omega)
  obtain ⟨x3, hx3⟩ := get_some (xs := xs) (k := q * 4 + 3) (by omega)
  have c0 := memA_at hx0
  have c1 := memA_at hx1
  have c2 := memA_at hx2
  have c3 := memA_at hx3
  have s0 := size_memA xs
  rw [hl] at s0
  have HX : Hid (xs[q * 4]? = some x0 ∧ xs[q * 4 + 1]? = some x1 ∧ xs[q * 4 + 2]? = some x2 ∧ xs[q * 4 + 3]? = some x3 ∧ xs.length = 64) := Lib.hid ⟨hx0, hx1, hx2, hx3, hl⟩
  have hone : (((((memA xs).setIfInBounds (q * 4) (.int .u64 (lset 0 r v x0))).setIfInBounds (q * 4 + 1) (.int .u64 (lset 1 r v x1))).setIfInBounds (q * 4 + 2) (.int .u64 (lset 2 r v x2))).setIfInBounds (q * 4 + 3) (.int .u64 (lset 3 r v x3))).all (·.oneCell') = true :=
    all_set (all_set (all_set (all_set (memA_one xs) _ rfl) _ rfl) _ rfl) _ rfl
  have HO := Lib.hid hone
  clear hx0 hx1 hx2 hx3 hl h hone
  go_enter Try.func72, Try.ntmps72
  go_wp2_with (first
    | (refine wpList_load_r rfl 26 _ rfl _ rfl 64 _ Try.underlying26 rfl (by kernel_rfl) (by (simp [go_sem, s0]; done)) ?_; intro C hC; simp [go_sem] at hC; subst hC)
    | (refine wpList_store_r rfl 26 _ _ rfl _ rfl _ rfl 64 (by kernel_rfl) (by (simp [go_sem, s0]; done)) (by (simp [s0]; done)) ?_ ?_; (exact HO.out); intro W hW; simp [go_sem] at hW; subst hW)
    | (go_at_call 70; refine (line_any _ _).mono ?_; rintro e w1 ⟨rfl, rfl⟩)
    | (go_at_call 88; refine (store_ok _ _ _ _ _ _ _ (by omega) (by omega)).mono ?_; rintro e w1 ⟨rfl, hb1⟩; obtain ⟨l1, d1, rfl⟩ := later_of hb1; clear hb1))
  refine bodyPost_ret (results_row_tmp rfl _ _ _ 64 _ rfl Try.underlying26 rfl (by kernel_rfl) (by simp [go_sem, s0]; done) (memA (xs.set (q * 4 + r) v)) ?_ _ rfl) rfl ⟨rfl, ?_⟩
  · simp [go_sem]
    exact poke_cells xs q r v x0 x1 x2 x3 hr c0 c1 c2 c3
  · repeat (first | exact Below.refl _ _ | apply bs_later | apply bs_alloc | apply bs_drew | apply bs_drewN)

theorem zero_one : (#[.int .u64 0, .int .u64 0, .int .u64 0, .int .u64 0, .int .u64 0, .int .u64 0, .int .u64 0, .int .u64 0, .int .u64 0, .int .u64 0, .int .u64 0, .int .u64 0, .int .u64 0, .int .u64 0, .int .u64 0, .int .u64 0, .int .u64 0, .int .u64 0, .int .u64 0, .int .u64 0, .int .u64 0, .int .u64 0, .int .u64 0, .int .u64 0, .int .u64 0, .int .u64 0, .int .u64 0, .int .u64 0, .int .u64 0, .int .u64 0, .int .u64 0, .int .u64 0, .int .u64 0, .int .u64 0, .int .u64 0, .int .u64 0, .int .u64 0, .int .u64 0, .int .u64 0, .int .u64 0, .int .u64 0, .int .u64 0, .int .u64 0, .int .u64 0, .int .u64 0, .int .u64 0, .int .u64 0, .int .u64 0, .int .u64 0, .int .u64 0, .int .u64 0, .int .u64 0, .int .u64 0, .int .u64 0, .int .u64 0, .int .u64 0, .int .u64 0, .int .u64 0, .int .u64 0, .int .u64 0, .int .u64 0, .int .u64 0, .int .u64 0, .int .u64 0] : Array Value).all (·.oneCell') = true := by kernel_rfl
theorem zero_mem : (#[.int .u64 0, .int .u64 0, .int .u64 0, .int .u64 0, .int .u64 0, .int .u64 0, .int .u64 0, .int .u64 0, .int .u64 0, .int .u64 0, .int .u64 0, .int .u64 0, .int .u64 0, .int .u64 0, .int .u64 0, .int .u64 0, .int .u64 0, .int .u64 0, .int .u64 0, .int .u64 0, .int .u64 0, .int .u64 0, .int .u64 0, .int .u64 0, .int .u64 0, .int .u64 0, .int .u64 0, .int .u64 0, .int .u64 0, .int .u64 0, .int .u64 0, .int .u64 0, .int .u64 0, .int .u64 0, .int .u64 0, .int .u64 0, .int .u64 0, .int .u64 0, .int .u64 0, .int .u64 0, .int .u64 0, .int .u64 0, .int .u64 0, .int .u64 0, .int .u64 0, .int .u64 0, .int .u64 0, .int .u64 0, .int .u64 0, .int .u64 0, .int .u64 0, .int .u64 0, .int .u64 0, .int .u64 0, .int .u64 0, .int .u64 0, .int .u64 0, .int .u64 0, .int .u64 0, .int .u64 0, .int .u64 0, .int .u64 0, .int .u64 0, .int .u64 0] : Array Value) = memA (List.replicate 64 0) := by kernel_rfl
theorem zero_size : (#[.int .u64 0, .int .u64 0, .int .u64 0, .int .u64 0, .int .u64 0, .int .u64 0, .int .u64 0, .int .u64 0, .int .u64 0, .int .u64 0, .int .u64 0, .int .u64 0, .int .u64 0, .int .u64 0, .int .u64 0, .int .u64 0, .int .u64 0, .int .u64 0, .int .u64 0, .int .u64 0, .int .u64 0, .int .u64 0, .int .u64 0, .int .u64 0, .int .u64 0, .int .u64 0, .int .u64 0, .int .u64 0, .int .u64 0, .int .u64 0, .int .u64 0, .int .u64 0, .int .u64 0, .int .u64 0, .int .u64 0, .int .u64 0, .int .u64 0, .int .u64 0, .int .u64 0, .int .u64 0, .int .u64 0, .int .u64 0, .int .u64 0, .int .u64 0, .int .u64 0, .int .u64 0, .int .u64 0, .int .u64 0, .int .u64 0, .int .u64 0, .int .u64 0, .int .u64 0, .int .u64 0, .int .u64 0, .int .u64 0, .int .u64 0, .int .u64 0, .int .u64 0, .int .u64 0, .int .u64 0, .int .u64 0, .int .u64 0, .int .u64 0, .int .u64 0] : Array Value).size = 64 := by kernel_rfl

set_option maxHeartbeats 2000000 in
set_option maxRecDepth 100000 in
theorem poke_bad (xs : List Int) (hl : xs.length = 64) (a v : Int) (w : World) (h : ¬ (0 ≤ a ∧ a ≤ 63)) :
    Calls Try.prog 72 #[.agg (memA xs), .int .i64 a, .int .u64 v] w (Ret (.tuple #[.agg (memA (List.replicate 64 0)), .int .i64 4]) w) := by
  have e1 : lineQ a = 0 := if_neg h
  have e2 : lineR a = 0 := if_neg h
  have e3 : lineE a = 4 := if_neg h
  clear h hl
  go_enter Try.func72, Try.ntmps72
  go_wp2_with (first
    | (refine wpList_store_r rfl 26 _ _ rfl _ rfl _ rfl 64 (by kernel_rfl) (by (simp only [go_sem, zero_size]; simp; done)) zero_size zero_one ?_; intro W hW; simp [go_sem] at hW; subst hW)
    | (go_at_call 70; refine (line_any _ _).mono ?_; rintro e w1 ⟨rfl, rfl⟩))
  refine bodyPost_ret (results_row_tmp rfl _ _ _ 64 _ rfl Try.underlying26 rfl (by kernel_rfl) (by simp only [go_sem, zero_size]; simp; done) (memA (List.replicate 64 0)) ?_ _ rfl) rfl ⟨rfl, ?_⟩
  · rw [rowOf_new _ _ (by simp)]
    exact zero_mem
  · repeat (first | exact Below.refl _ _ | apply bs_later | apply bs_alloc | apply bs_drew | apply bs_drewN)
end Go.Proofs.Ytffhfpdmfegcpac.bank
