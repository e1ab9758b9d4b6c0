/- The contract of slices.Equal at slices of deeds: it answers whether the two lists are the same; it writes nothing. -/
import Derived.Test.YtffhfpdmfegcpabKeeps
namespace Go.Proofs.Ytffhfpdmfegcpab.eqDeed
open Go.ChangeShapes Go.WideShapes Go.ChangeAt Go.RowKit
set_option linter.unusedVariables false
set_option linter.unusedSimpArgs false
open Go.Proofs.Ytffhfpdmfegcpab.base Go.Proofs.Ytffhfpdmfegcpab.table Go.Proofs.Ytffhfpdmfegcpab.same Go.Proofs.Ytffhfpdmfegcpab.told

noncomputable def eqL (xs ys : List D4) : Bool := @decide (xs = ys) (Classical.propDecidable _)
theorem eqL_yes {xs ys : List D4} (h : xs = ys) : eqL xs ys = true := by unfold eqL; exact @decide_eq_true _ (Classical.propDecidable _) h
theorem eqL_no {xs ys : List D4} (h : ¬ xs = ys) : eqL xs ys = false := by unfold eqL; exact @decide_eq_false _ (Classical.propDecidable _) h

theorem cells_inj {x y : D4} (h : x.cells = y.cells) : x = y := by
  obtain ⟨a, b, c, d⟩ := x
  obtain ⟨a', b', c', d'⟩ := y
  injection h with h1 h2
  injection h2 with h2 h3
  injection h3 with h3 h4
  injection h4 with h4 _
  injection h1 with _ h1
  injection h2 with _ h2
  injection h3 with _ h3
  injection h4 with _ h4
  subst h1 h2 h3 h4
  rfl

set_option maxHeartbeats 1000000 in
set_option maxRecDepth 100000 in
theorem equal_same (a b : Option Addr) (c d : Nat) (w : World) (xs ys : List D4) (hl : xs.length = ys.length) (hn : xs.length ≤ maxLen) (wx : ∀ x ∈ xs, x.Ok) (wy : ∀ y ∈ ys, y.Ok) (ha : DeedsAt w a xs) (hb : DeedsAt w b ys) :
    Calls Try.prog 35 #[.slice a xs.length c, .slice b ys.length d] w fun e w' => e = .returned (.bool (eqL xs ys)) ∧ ∃ n, w' = w.drewN n := by
  unfold maxLen at hn
  rcases Nat.eq_zero_or_pos xs.length with h0 | h0
  · obtain rfl := List.length_eq_zero_iff.1 h0
    obtain rfl : ys = [] := List.length_eq_zero_iff.1 (by rw [← hl]; exact h0)
    rw [eqL_yes rfl]
    go_enter Try.func35, Try.ntmps35
    go_wp2
    go_rounds 1
    go_ret
    exact ⟨rfl, 0, rfl⟩
  · obtain ⟨x0, hx0⟩ := get_some (xs := xs) (k := 0) h0
    obtain ⟨y0, hy0⟩ := get_some (xs := ys) (k := 0) (by omega)
    obtain ⟨ba, oa, rfl⟩ := RowsAt.form ha (i := 0) (r := x0.cells) (by simp [hx0])
    obtain ⟨bb, ob, rfl⟩ := RowsAt.form hb (i := 0) (r := y0.cells) (by simp [hy0])
    clear hx0 hy0
    rw [← hl]
    obtain ⟨l, hxl⟩ : ∃ l, xs.length = l := ⟨_, rfl⟩
    have HX := Lib.hid hxl
    have HL : Hid (ys.length = l) := Lib.hid (by omega)
    have HCA := Lib.hid ha
    have HCB := Lib.hid hb
    have HWX := Lib.hid wx
    have HWY := Lib.hid wy
    rw [hxl] at hn h0 ⊢
    clear hl ha hb hxl wx wy
    go_enter Try.func35, Try.ntmps35
    go_wp2
    go_loopw [13] (fun i w1 => ∃ k : Nat, k ≤ l ∧ i = .int .i64 k ∧ xs.take k = ys.take k ∧ ∃ n, w1 = w.drewN n) (fun i _ => l - (intOf i).toNat)
    case atStart => exact ⟨0, by omega, rfl, rfl, 0, rfl⟩
    case round =>
      obtain ⟨k, hk, rfl, ht, nw, rfl⟩ := hrel
      have HT := Lib.hid ht
      clear ht
      by_cases hlt : k < l
      · obtain ⟨x, hx⟩ := get_some (xs := xs) (k := k) (by rw [HX.out]; exact hlt)
        obtain ⟨y, hy⟩ := get_some (xs := ys) (k := k) (by rw [HL.out]; exact hlt)
        obtain ⟨c0, c1, c2, c3⟩ := DeedsAt.at HCA.out hx
        obtain ⟨e0, e1, e2, e3⟩ := DeedsAt.at HCB.out hy
        have xok := HWX.out x (List.mem_of_getElem? hx)
        have yok := HWY.out y (List.mem_of_getElem? hy)
        have hq := fun w => run_eq_deed w x.n x.k x.a x.v y.n y.k y.a y.v xok.1 xok.2.1 xok.2.2.1 xok.2.2.2 yok.1 yok.2.1 yok.2.2.1 yok.2.2.2
        have HKX := Lib.hid hx
        have HKY := Lib.hid hy
        clear hx hy xok yok
        by_cases he : x = y
        · have he' : eqv [.int .i64 x.n, .int .i64 x.k, .int .i64 x.a, .int .u64 x.v] [.int .i64 y.n, .int .i64 y.k, .int .i64 y.a, .int .u64 y.v] = true := eqv_true (congrArg D4.cells he)
          have he2 := Lib.hid he
          clear he
          go_wp2
          go_quiet (fail)
          go_wp2
          go_roundw
          case rel => exact ⟨k + 1, by omega, by go_num, take_eq_snoc HKX.out HKY.out HT.out he2.out, _, rfl⟩
          case measure => simp [intOf]; omega
        · have he' : eqv [.int .i64 x.n, .int .i64 x.k, .int .i64 x.a, .int .u64 x.v] [.int .i64 y.n, .int .i64 y.k, .int .i64 y.a, .int .u64 y.v] = false := eqv_false fun h => he (cells_inj h)
          have he2 := Lib.hid (eqL_no (ne_of_at HKX.out HKY.out he))
          clear he
          go_wp2
          go_quiet (fail)
          go_wp2
          go_ret
          exact ⟨congrArg (fun z => Ending.returned (Value.bool z)) he2.out.symm, drewN2 _ _ _⟩
      · obtain rfl : k = l := by omega
        have he2 := Lib.hid (eqL_yes (eq_of_take (HX.out.trans HL.out.symm) (by rw [HX.out]; exact HT.out)))
        go_wp2
        go_ret
        exact ⟨congrArg (fun z => Ending.returned (Value.bool z)) he2.out.symm, _, rfl⟩
theorem equal_n (a b : Option Addr) (c d n : Nat) (w : World) (xs ys : List D4) (hx : xs.length = n) (hy : ys.length = n) (hn : n ≤ maxLen) (wx : ∀ x ∈ xs, x.Ok) (wy : ∀ y ∈ ys, y.Ok) (ha : DeedsAt w a xs) (hb : DeedsAt w b ys) :
    Calls Try.prog 35 #[.slice a n c, .slice b n d] w fun e w' => e = .returned (.bool (eqL xs ys)) ∧ ∃ n, w' = w.drewN n := by
  have h := equal_same a b c d w xs ys (by rw [hx, hy]) (by rw [hx]; exact hn) wx wy ha hb
  rw [hx, hy] at h
  exact h
end Go.Proofs.Ytffhfpdmfegcpab.eqDeed
