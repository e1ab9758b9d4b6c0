/- The contracts of tally.check and tally.checked. -/
import Derived.Test.YtffhfpdmfegcpabTallyLaw
import Derived.Test.YtffhfpdmfegcpabAtomic
namespace Go.Proofs.Ytffhfpdmfegcpab.tally
open Go.ChangeShapes Go.WideShapes Go.ChangeAt Go.RowKit
open Go.Proofs.Ytffhfpdmfegcpab.base Go.Proofs.Ytffhfpdmfegcpab.flat Go.Proofs.Ytffhfpdmfegcpab.table Go.Proofs.Ytffhfpdmfegcpab.addr Go.Proofs.Ytffhfpdmfegcpab.atomic Go.Proofs.Ytffhfpdmfegcpab.told Go.Proofs.Ytffhfpdmfegcpab.prog Go.Proofs.Ytffhfpdmfegcpab.rows
set_option linter.unusedVariables false
set_option linter.unusedSimpArgs false

set_option maxHeartbeats 4000000 in
set_option maxRecDepth 100000 in
theorem check_any (ts : List E6) (nd : Int) (a : Option Addr) (n c : Nat) (w : World) (hm : n ≤ maxLen) (hd : ts.length = n) (h : EventsAt w a ts) :
    Calls Try.prog 77 #[.slice a n c, .int .i64 nd] w (Ret (.int .i64 (evE nd ts)) w) := by
  by_cases hn : 200 < n
  · have hn' : (200 : Int) < n := by omega
    rw [show evE nd ts = 2 from if_pos (by rw [hd]; exact hn)]
    unfold maxLen at hm
    go_enter Try.func77, Try.ntmps77
    go_wp2
    go_ret
    exact ⟨rfl, (by repeat (first | exact Below.refl _ _ | apply bs_later | apply bs_alloc | apply bs_drew | apply bs_drewN))⟩
  · have hn' : ¬ (200 : Int) < n := by omega
    rw [show evE nd ts = fnz (evP nd) 0 ts from if_neg (by rw [hd]; exact hn)]
    have HT := Lib.hid h
    have HD := Lib.hid hd
    clear h hd
    go_enter Try.func77, Try.ntmps77
    go_wp2
    go_loopw [13] (RelL (evP nd) ts w) (fun i _ => n - (intOf i).toNat)
    case atStart => exact ⟨0, #[], _, by omega, rfl, later_zero _, fun i x hi => by omega⟩
    case round =>
      obtain ⟨k, l, d, hk, rfl, rfl, hall⟩ := hrel
      by_cases hlt : k < n
      · obtain ⟨x, hx⟩ := get_some (xs := ts) (k := k) (by rw [HD.out]; exact hlt)
        obtain ⟨b, off, rfl⟩ := EventsAt.form HT.out hx
        obtain ⟨c0, c1, c2, c3, c4, c5⟩ := EventsAt.at HT.out hx
        have hin : inB w b := lt_of_cell c0
        have HX := Lib.hid hx
        have HALL := Lib.hid hall
        have HL : Hid (k + 1 ≤ ts.length) := Lib.hid (by rw [HD.out]; exact hlt)
        clear hx hall hk
        obtain ⟨⟨xn, xk, xa, xv⟩, xu, xb⟩ := x
        simp only at c0 c1 c2 c3 c4 c5
        have PR := fun w => right_any xn xk xa xv w
        by_cases hr : rightE xn xk xa xv = 0
        · rw [hr] at PR
          have HR := Lib.hid PR
          by_cases hK : nd ≤ xn
          · have HF : Hid (evP nd (0 + k) ⟨⟨xn, xk, xa, xv⟩, xu, xb⟩ = 4) := Lib.hid (by unfold evP splitP; rw [if_pos hr, if_pos hK])
            have HE := Lib.hid ((fnz_at HALL.out HX.out (by rw [HF.out]; decide)).trans HF.out)
            clear PR hr
            go_wp2_with (go_at_call 29; refine (HR.out _).mono ?_; rintro e w1 ⟨rfl, hb1⟩; obtain ⟨l1, d1, rfl⟩ := later_of hb1; clear hb1)
            go_ret
            exact ⟨congrArg (fun z => Ending.returned (Value.int .i64 z)) HE.out.symm, (by repeat (first | exact Below.refl _ _ | apply bs_later | apply bs_alloc | apply bs_drew | apply bs_drewN))⟩
          · have HF : Hid (evP nd (0 + k) ⟨⟨xn, xk, xa, xv⟩, xu, xb⟩ = 0) := Lib.hid (by unfold evP splitP; rw [if_pos hr, if_neg hK])
            clear PR hr
            go_wp2_with (go_at_call 29; refine (HR.out _).mono ?_; rintro e w1 ⟨rfl, hb1⟩; obtain ⟨l1, d1, rfl⟩ := later_of hb1; clear hb1)
            exact ⟨⟨k + 1, _, _, HL.out, by go_num, later_al _ _ _ _ _ _, next_all HX.out HALL.out HF.out⟩, by simp [intOf]; omega⟩
        · have HF : Hid (evP nd (0 + k) ⟨⟨xn, xk, xa, xv⟩, xu, xb⟩ = rightE xn xk xa xv) := Lib.hid (by unfold evP splitP; exact if_neg hr)
          have HE := Lib.hid ((fnz_at HALL.out HX.out (by rw [HF.out]; exact hr)).trans HF.out)
          have hrb : (rightE xn xk xa xv != 0) = true := by simpa using hr
          have HR := Lib.hid PR
          clear PR hr
          go_wp2_with (go_at_call 29; refine (HR.out _).mono ?_; rintro e w1 ⟨rfl, hb1⟩; obtain ⟨l1, d1, rfl⟩ := later_of hb1; clear hb1)
          go_ret
          exact ⟨congrArg (fun z => Ending.returned (Value.int .i64 z)) HE.out.symm, (by repeat (first | exact Below.refl _ _ | apply bs_later | apply bs_alloc | apply bs_drew | apply bs_drewN))⟩
      · obtain rfl : k = n := by have := HD.out; omega
        have HE := Lib.hid (fnz_ok (f := evP nd) (xs := ts) (s := 0) fun i y hy => hall i y (by rw [← HD.out]; exact (List.getElem?_eq_some_iff.1 hy).1) hy)
        clear hall
        go_wp2
        go_ret
        exact ⟨congrArg (fun z => Ending.returned (Value.int .i64 z)) HE.out.symm, (by repeat (first | exact Below.refl _ _ | apply bs_later | apply bs_alloc | apply bs_drew | apply bs_drewN))⟩

set_option maxHeartbeats 1000000 in
set_option maxRecDepth 100000 in
theorem checked_any (cn cs cy cb : Int) (ts : List E6) (a : Option Addr) (n c : Nat) (w : World) (hm : n ≤ maxLen) (hd : ts.length = n) (h : EventsAt w a ts) :
    Calls Try.prog 66 #[.agg #[.int .i64 cn, .int .i64 cs, .int .i64 cy, .int .i64 cb], .slice a n c] w (Ret (.int .i64 (tallyE cn cs cy cb ts)) w) := by
  have PC := fun w => addr.check_any cn cs cy cb w
  have PE := fun w h => tally.check_any ts cn a n c w hm hd h
  have HT := Lib.hid h
  have HE := Lib.hid PE
  unfold tallyE
  by_cases hc : CfgOK cn cs cy cb
  · rw [if_pos (cfgE_ok hc)]
    rw [cfgE_ok hc] at PC
    have HC := Lib.hid PC
    clear PC PE hc h hd
    go_enter Try.func66, Try.ntmps66
    go_wp2_with (first
      | (go_at_call 69; refine (HC.out _).mono ?_; rintro e w1 ⟨rfl, hb1⟩; obtain ⟨l1, d1, rfl⟩ := later_of hb1; clear hb1)
      | (go_at_call 77; refine (HE.out _ (EventsAt.below HT.out (by repeat (first | exact Below.refl _ _ | apply bs_later | apply bs_alloc | apply bs_drew | apply bs_drewN)))).mono ?_; rintro e w1 ⟨rfl, hb1⟩; obtain ⟨l2, d2, rfl⟩ := later_of hb1; clear hb1))
    go_ret
    exact ⟨rfl, (by repeat (first | exact Below.refl _ _ | apply bs_later | apply bs_alloc | apply bs_drew | apply bs_drewN))⟩
  · rw [if_neg (by rw [cfgE_bad hc]; decide), cfgE_bad hc]
    rw [cfgE_bad hc] at PC
    have HC := Lib.hid PC
    clear PC PE hc h hd
    go_enter Try.func66, Try.ntmps66
    go_wp2_with (first
      | (go_at_call 69; refine (HC.out _).mono ?_; rintro e w1 ⟨rfl, hb1⟩; obtain ⟨l1, d1, rfl⟩ := later_of hb1; clear hb1))
    go_ret
    exact ⟨rfl, (by repeat (first | exact Below.refl _ _ | apply bs_later | apply bs_alloc | apply bs_drew | apply bs_drewN))⟩
end Go.Proofs.Ytffhfpdmfegcpab.tally
