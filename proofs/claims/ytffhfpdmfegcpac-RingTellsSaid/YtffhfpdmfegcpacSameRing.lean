/- The contract of ringdoveref.SameRing: it answers whether two lists of slots are the same. -/
import Derived.Test.YtffhfpdmfegcpacSlot
import Derived.Test.YtffhfpdmfegcpacSame
namespace Go.Proofs.Ytffhfpdmfegcpac.slot
open Go.ChangeShapes Go.WideShapes Go.ChangeAt Go.RowKit
open Go.Proofs.Ytffhfpdmfegcpac.base Go.Proofs.Ytffhfpdmfegcpac.flat Go.Proofs.Ytffhfpdmfegcpac.table Go.Proofs.Ytffhfpdmfegcpac.same
set_option linter.unusedVariables false
set_option linter.unusedSimpArgs false

theorem run_eq_slot (w : World) (x y : S4) (hx : x.Ok) (hy : y.Ok) :
    (Op.equalIn 10000 85 (.agg #[.int .i64 x.at_, .bool x.full, .int .i64 x.by_, .int .i64 x.wait]) (.agg #[.int .i64 y.at_, .bool y.full, .int .i64 y.by_, .int .i64 y.wait])).run Try.prog w
      = .ok (eqv [.int .i64 x.at_, .bool x.full, .int .i64 x.by_, .int .i64 x.wait] [.int .i64 y.at_, .bool y.full, .int .i64 y.by_, .int .i64 y.wait]) w :=
  run_equalIn_flat w 3 _ [.int .i64, .bool, .int .i64, .int .i64] (by kernel_rfl) (by kernel_rfl) (by kernel_rfl) (by omega) (.inl ⟨_, Try.underlying85⟩)
    [.int .i64 x.at_, .bool x.full, .int .i64 x.by_, .int .i64 x.wait] [.int .i64 y.at_, .bool y.full, .int .i64 y.by_, .int .i64 y.wait] ⟨⟨_, rfl, hx.1⟩, ⟨_, rfl⟩, ⟨_, rfl, hx.2.1⟩, ⟨_, rfl, hx.2.2⟩, trivial⟩ ⟨⟨_, rfl, hy.1⟩, ⟨_, rfl⟩, ⟨_, rfl, hy.2.1⟩, ⟨_, rfl, hy.2.2⟩, trivial⟩

theorem slot_inj {x y : S4} (h : x.cells = y.cells) : x = y := by
  obtain ⟨a, b, c, d⟩ := x
  obtain ⟨a', b', c', d'⟩ := y
  injection h with h1 h2
  injection h2 with h2 h3
  injection h3 with h3 h4
  injection h4 with h4 _
  injection h1 with _ h1
  injection h2 with h2
  injection h3 with _ h3
  injection h4 with _ h4
  subst h1 h2 h3 h4
  rfl
noncomputable def sameL (xs ys : List S4) : Bool := @decide (xs = ys) (Classical.propDecidable _)
theorem sameL_yes {xs ys : List S4} (h : xs = ys) : sameL xs ys = true := by unfold sameL; exact @decide_eq_true _ (Classical.propDecidable _) h
theorem sameL_no {xs ys : List S4} (h : ¬ xs = ys) : sameL xs ys = false := by unfold sameL; exact @decide_eq_false _ (Classical.propDecidable _) h

def RelS (xs ys : List S4) (w0 : World) (i : Value) (wr : World) : Prop :=
  ∃ k : Nat, k ≤ xs.length ∧ i = .int .i64 k ∧ xs.take k = ys.take k ∧ ∃ n, wr = w0.drewN n

set_option maxHeartbeats 1000000 in
set_option maxRecDepth 100000 in
theorem sameRing_any (a b : Option Addr) (n c m d : Nat) (w : World) (xs ys : List S4) (hx : xs.length = n) (hy : ys.length = m) (hn : n ≤ maxLen) (hm : m ≤ maxLen) (wx : ∀ x ∈ xs, x.Ok) (wy : ∀ y ∈ ys, y.Ok) (ha : SlotsAt w a xs) (hb : SlotsAt w b ys) :
    Calls Try.prog 29 #[.slice a n c, .slice b m d] w (Ret (.bool (sameL xs ys)) w) := by
  unfold maxLen at hn hm
  by_cases hne : n = m
  · subst hne
    have HX := Lib.hid hx
    have HL := Lib.hid hy
    have HCA := Lib.hid ha
    have HCB := Lib.hid hb
    have HWX := Lib.hid wx
    have HWY := Lib.hid wy
    clear hx hy ha hb wx wy hm
    go_enter Try.func29, Try.ntmps29
    go_wp2
    go_loopw [13] (RelS xs ys w) (fun i _ => n - (intOf i).toNat)
    case atStart => exact ⟨0, by omega, rfl, rfl, 0, rfl⟩
    case round =>
      obtain ⟨k, hk, rfl, ht, nw, rfl⟩ := hrel
      have HT := Lib.hid ht
      clear ht
      by_cases hlt : k < n
      · obtain ⟨x, hx⟩ := get_some (xs := xs) (k := k) (by rw [HX.out]; exact hlt)
        obtain ⟨y, hy⟩ := get_some (xs := ys) (k := k) (by rw [HL.out]; exact hlt)
        obtain ⟨ba, oa, rfl⟩ := SlotsAt.form HCA.out hx
        obtain ⟨bb, ob, rfl⟩ := SlotsAt.form HCB.out hy
        obtain ⟨c0, c1, c2, c3⟩ := SlotsAt.at HCA.out hx
        obtain ⟨e0, e1, e2, e3⟩ := SlotsAt.at HCB.out hy
        have xok := HWX.out x (List.mem_of_getElem? hx)
        have yok := HWY.out y (List.mem_of_getElem? hy)
        have hq := fun w => run_eq_slot w x y xok yok
        have HKX := Lib.hid hx
        have HKY := Lib.hid hy
        have HJ : Hid (k + 1 ≤ xs.length) := Lib.hid (by rw [HX.out]; exact hlt)
        clear hx hy xok yok hk
        by_cases he : x = y
        · have he' : eqv [.int .i64 x.at_, .bool x.full, .int .i64 x.by_, .int .i64 x.wait] [.int .i64 y.at_, .bool y.full, .int .i64 y.by_, .int .i64 y.wait] = true := eqv_true (congrArg S4.cells he)
          have he2 := Lib.hid he
          clear he
          go_wp2
          go_quiet (fail)
          go_wp2
          go_roundw
          case rel => exact ⟨k + 1, HJ.out, by go_num, take_eq_snoc HKX.out HKY.out HT.out he2.out, _, rfl⟩
          case measure => simp [intOf]; omega
        · have he' : eqv [.int .i64 x.at_, .bool x.full, .int .i64 x.by_, .int .i64 x.wait] [.int .i64 y.at_, .bool y.full, .int .i64 y.by_, .int .i64 y.wait] = false := eqv_false fun h => he (slot_inj h)
          have he2 := Lib.hid (sameL_no (ne_of_at HKX.out HKY.out he))
          clear he
          go_wp2
          go_quiet (fail)
          go_wp2
          go_ret
          exact ⟨congrArg (fun z => Ending.returned (Value.bool z)) he2.out.symm, (by repeat (first | exact Below.refl _ _ | apply bs_later | apply bs_alloc | apply bs_drew | apply bs_drewN))⟩
      · obtain rfl : k = n := by have := HX.out; omega
        have he2 := Lib.hid (sameL_yes (eq_of_take (HX.out.trans HL.out.symm) (by rw [HX.out]; exact HT.out)))
        go_wp2
        go_ret
        exact ⟨congrArg (fun z => Ending.returned (Value.bool z)) he2.out.symm, (by repeat (first | exact Below.refl _ _ | apply bs_later | apply bs_alloc | apply bs_drew | apply bs_drewN))⟩
  · have h1 : ((n : Int) != (m : Int)) = true := by simp; omega
    have HE := Lib.hid (sameL_no (xs := xs) (ys := ys) fun h => hne (by rw [← hx, ← hy, h]))
    clear hx hy ha hb wx wy hne
    go_enter Try.func29, Try.ntmps29
    go_wp2
    go_ret
    exact ⟨congrArg (fun z => Ending.returned (Value.bool z)) HE.out.symm, by repeat (first | exact Below.refl _ _ | apply bs_later | apply bs_alloc | apply bs_drew | apply bs_drewN)⟩
end Go.Proofs.Ytffhfpdmfegcpac.slot
