/- Contracts of bank.New, bank.Read, bank.Write. -/
import Derived.Test.YtffhfpdmfegcpacBankSame
import Derived.Test.YtffhfpdmfegcpacMemEq
namespace Go.Proofs.Ytffhfpdmfegcpac.bankMore
open Go.ChangeShapes Go.WideShapes Go.ChangeAt Go.RowKit
open Go.Proofs.Ytffhfpdmfegcpac.base Go.Proofs.Ytffhfpdmfegcpac.flat Go.Proofs.Ytffhfpdmfegcpac.same Go.Proofs.Ytffhfpdmfegcpac.words Go.Proofs.Ytffhfpdmfegcpac.addr Go.Proofs.Ytffhfpdmfegcpac.bank Go.Proofs.Ytffhfpdmfegcpac.atomic
set_option linter.unusedVariables false
set_option linter.unusedSimpArgs false

set_option maxHeartbeats 1000000 in
set_option maxRecDepth 100000 in
theorem new_any (w : World) : Calls Try.prog 59 #[] w (Ret (.agg (memA zeroXs)) w) := by
  go_enter Try.func59, Try.ntmps59
  go_wp2_with (refine wpList_store_r rfl 26 _ _ rfl _ rfl _ rfl 64 (by kernel_rfl) (by (simp only [go_sem, zero_size]; simp; done)) zero_size zero_one ?_; intro W hW; simp [go_sem] at hW; subst hW)
  refine bodyPost_ret (results_row rfl _ _ _ 64 _ rfl Try.underlying26 rfl (by kernel_rfl) (by simp only [go_sem, zero_size]; simp; done) (memA zeroXs) ?_) rfl ⟨rfl, ?_⟩
  · rw [rowOf_new _ _ (by simp)]
    exact zero_is
  · repeat (first | exact Below.refl _ _ | apply bs_later | apply bs_alloc | apply bs_drew | apply bs_drewN)

/-- the line at place q: its four words -/
def wordAt (xs : List Int) (i : Nat) : Int := xs.getD i 0
theorem wordAt_cell {xs : List Int} (hl : xs.length = 64) {i : Nat} (hi : i < 64) : (memA xs)[i]? = some (.int .u64 (wordAt xs i)) := by
  obtain ⟨x, hx⟩ := get_some (xs := xs) (k := i) (by omega)
  have : wordAt xs i = x := by unfold wordAt; rw [List.getD_eq_getElem?_getD, hx]; rfl
  rw [this]; exact memA_at hx

set_option maxHeartbeats 1000000 in
set_option maxRecDepth 100000 in
theorem read_ok (xs : List Int) (hl : xs.length = 64) (q : Nat) (hq : q < 16) (w : World) :
    Calls Try.prog 82 #[.agg (memA xs), .int .i64 q] w (Ret (.tuple #[.agg #[.int .u64 (wordAt xs (q * 4)), .int .u64 (wordAt xs (q * 4 + 1)), .int .u64 (wordAt xs (q * 4 + 2)), .int .u64 (wordAt xs (q * 4 + 3))], .int .i64 0]) w) := by
  have c0 := wordAt_cell hl (i := q * 4) (by omega)
  have c1 := wordAt_cell hl (i := q * 4 + 1) (by omega)
  have c2 := wordAt_cell hl (i := q * 4 + 2) (by omega)
  have c3 := wordAt_cell hl (i := q * 4 + 3) (by omega)
  have hq' : ¬ (q : Int) < 0 := by omega
  have hq2 : (q : Int) < 16 := by omega
  clear hl
  generalize wordAt xs (q * 4) = x0 at *
  generalize wordAt xs (q * 4 + 1) = x1 at *
  generalize wordAt xs (q * 4 + 2) = x2 at *
  generalize wordAt xs (q * 4 + 3) = x3 at *
  go_enter Try.func82, Try.ntmps82
  go_wp2
  go_returns
  exact ⟨rfl, by repeat (first | exact Below.refl _ _ | apply bs_later | apply bs_alloc | apply bs_drew | apply bs_drewN)⟩

set_option maxHeartbeats 1000000 in
set_option maxRecDepth 100000 in
theorem read_bad (xs : List Int) (hl : xs.length = 64) (q : Int) (hq : ¬ (0 ≤ q ∧ q ≤ 15)) (w : World) :
    Calls Try.prog 82 #[.agg (memA xs), .int .i64 q] w (Ret (.tuple #[.agg #[.int .u64 0, .int .u64 0, .int .u64 0, .int .u64 0], .int .i64 4]) w) := by
  clear hl
  by_cases h : q < 0
  · clear hq
    go_enter Try.func82, Try.ntmps82
    go_wp2
    go_returns
    exact ⟨rfl, by repeat (first | exact Below.refl _ _ | apply bs_later | apply bs_alloc | apply bs_drew | apply bs_drewN)⟩
  · have h2 : 16 ≤ q := by omega
    clear hq
    go_enter Try.func82, Try.ntmps82
    go_wp2
    go_returns
    exact ⟨rfl, by repeat (first | exact Below.refl _ _ | apply bs_later | apply bs_alloc | apply bs_drew | apply bs_drewN)⟩

/-- a memory with another line at place q -/
def lineM (xs : List Int) (q : Nat) (a b c d : Int) : List Int := (((xs.set (q * 4) a).set (q * 4 + 1) b).set (q * 4 + 2) c).set (q * 4 + 3) d
theorem lineM_len (xs : List Int) (q : Nat) (a b c d : Int) : (lineM xs q a b c d).length = xs.length := by simp [lineM]
theorem lineM_cells (xs : List Int) (q : Nat) (a b c d : Int) :
    ((((memA xs).setIfInBounds (q * 4) (.int .u64 a)).setIfInBounds (q * 4 + 1) (.int .u64 b)).setIfInBounds (q * 4 + 2) (.int .u64 c)).setIfInBounds (q * 4 + 3) (.int .u64 d) = memA (lineM xs q a b c d) := by
  unfold lineM; rw [memA_set, memA_set, memA_set, memA_set]
theorem lineM_wf {xs : List Int} (h : memEq.AllU xs) (q : Nat) {a b c d : Int} (ha : (Lit.int .u64 a).wf = true) (hb : (Lit.int .u64 b).wf = true) (hc : (Lit.int .u64 c).wf = true) (hd : (Lit.int .u64 d).wf = true) : memEq.AllU (lineM xs q a b c d) := by
  intro x hx
  unfold lineM at hx
  rcases List.mem_or_eq_of_mem_set hx with hx | rfl
  · rcases List.mem_or_eq_of_mem_set hx with hx | rfl
    · rcases List.mem_or_eq_of_mem_set hx with hx | rfl
      · rcases List.mem_or_eq_of_mem_set hx with hx | rfl
        · exact h x hx
        · exact ha
      · exact hb
    · exact hc
  · exact hd
theorem wordAt_wf {xs : List Int} (h : memEq.AllU xs) (i : Nat) : (Lit.int .u64 (wordAt xs i)).wf = true := by
  unfold wordAt
  rw [List.getD_eq_getElem?_getD]
  cases hx : xs[i]? with
  | none => decide
  | some x => exact h x (List.mem_of_getElem? hx)

set_option maxHeartbeats 2000000 in
set_option maxRecDepth 100000 in
theorem write_ok (xs : List Int) (hl : xs.length = 64) (q : Nat) (hq : q < 16) (a b c d : Int) (w : World) :
    Calls Try.prog 60 #[.agg (memA xs), .int .i64 q, .agg #[.int .u64 a, .int .u64 b, .int .u64 c, .int .u64 d]] w (Ret (.tuple #[.agg (memA (lineM xs q a b c d)), .int .i64 0]) w) := by
  have c0 := wordAt_cell hl (i := q * 4) (by omega)
  have c1 := wordAt_cell hl (i := q * 4 + 1) (by omega)
  have c2 := wordAt_cell hl (i := q * 4 + 2) (by omega)
  have c3 := wordAt_cell hl (i := q * 4 + 3) (by omega)
  have s0 : (memA xs).size = 64 := by rw [size_memA, hl]
  have HX := Lib.hid hl
  have hq2 : (q : Int) < 16 := by omega
  have hone : (((((memA xs).setIfInBounds (q * 4) (.int .u64 a)).setIfInBounds (q * 4 + 1) (.int .u64 b)).setIfInBounds (q * 4 + 2) (.int .u64 c)).setIfInBounds (q * 4 + 3) (.int .u64 d)).all (·.oneCell') = true :=
    all_set (all_set (all_set (all_set (memA_one xs) _ rfl) _ rfl) _ rfl) _ rfl
  have HO := Lib.hid hone
  clear hl hone
  go_enter Try.func60, Try.ntmps60
  go_wp2_with (first
    | (refine wpList_load_r rfl 26 _ rfl _ rfl 64 _ Try.underlying26 rfl (by kernel_rfl) (by (simp [go_sem, s0]; done)) ?_; intro C hC; simp [go_sem] at hC; subst hC)
    | (refine wpList_store_r rfl 26 _ _ rfl _ rfl _ rfl 64 (by kernel_rfl) (by (simp [go_sem, s0]; done)) (by (simp [s0]; done)) ?_ ?_; (exact HO.out); intro W hW; simp [go_sem] at hW; subst hW)
    | (go_at_call 82; refine (read_ok xs HX.out q (by omega) _).mono ?_; rintro e w1 ⟨rfl, hb1⟩; obtain ⟨l1, d1, rfl⟩ := later_of hb1; clear hb1))
  refine bodyPost_ret (results_row_tmp rfl _ _ _ 64 _ rfl Try.underlying26 rfl (by kernel_rfl) (by simp [go_sem, s0]; done) (memA (lineM xs q a b c d)) ?_ _ rfl) rfl ⟨rfl, ?_⟩
  · simp [go_sem]
    exact lineM_cells xs q a b c d
  · repeat (first | exact Below.refl _ _ | apply bs_later | apply bs_alloc | apply bs_drew | apply bs_drewN)

set_option maxHeartbeats 2000000 in
set_option maxRecDepth 100000 in
theorem write_bad (xs : List Int) (hl : xs.length = 64) (q : Int) (hq : ¬ (0 ≤ q ∧ q ≤ 15)) (a b c d : Int) (w : World) :
    Calls Try.prog 60 #[.agg (memA xs), .int .i64 q, .agg #[.int .u64 a, .int .u64 b, .int .u64 c, .int .u64 d]] w (Ret (.tuple #[.agg (memA zeroXs), .int .i64 4]) w) := by
  have s0 : (memA xs).size = 64 := by rw [size_memA, hl]
  have PR := fun w => read_bad xs hl q hq w
  have HR := Lib.hid PR
  clear PR hl hq
  go_enter Try.func60, Try.ntmps60
  go_wp2_with (first
    | (refine wpList_load_r rfl 26 _ rfl _ rfl 64 _ Try.underlying26 rfl (by kernel_rfl) (by (simp [go_sem, s0]; done)) ?_; intro C hC; simp [go_sem] at hC; subst hC)
    | (refine wpList_store_r rfl 26 _ _ rfl _ rfl _ rfl 64 (by kernel_rfl) (by (simp only [go_sem, zero_size]; simp; done)) zero_size zero_one ?_; intro W hW; simp [go_sem] at hW; subst hW)
    | (go_at_call 82; refine (HR.out _).mono ?_; rintro e w1 ⟨rfl, hb1⟩; obtain ⟨l1, d1, rfl⟩ := later_of hb1; clear hb1))
  refine bodyPost_ret (results_row_tmp rfl _ _ _ 64 _ rfl Try.underlying26 rfl (by kernel_rfl) (by simp only [go_sem, zero_size]; simp; done) (memA zeroXs) ?_ _ rfl) rfl ⟨rfl, ?_⟩
  · rw [rowOf_alloc _ (by simp [go_sem]), rowOf_later _ _ (by simp [go_sem]), rowOf_new _ _ (by simp)]
    exact zero_is
  · repeat (first | exact Below.refl _ _ | apply bs_later | apply bs_alloc | apply bs_drew | apply bs_drewN)
end Go.Proofs.Ytffhfpdmfegcpac.bankMore
