/- The contract of prog.Check. -/
import Derived.Test.YtffhfpdmfegcpabProgLaw
namespace Go.Proofs.Ytffhfpdmfegcpab.prog
open Go.ChangeShapes Go.WideShapes Go.ChangeAt Go.RowKit
open Go.Proofs.Ytffhfpdmfegcpab.base Go.Proofs.Ytffhfpdmfegcpab.flat Go.Proofs.Ytffhfpdmfegcpab.table Go.Proofs.Ytffhfpdmfegcpab.addr Go.Proofs.Ytffhfpdmfegcpab.atomic
set_option linter.unusedVariables false
set_option linter.unusedSimpArgs false

set_option maxHeartbeats 4000000 in
set_option maxRecDepth 100000 in
theorem progCheck_ok (cn cs cy cb : Int) (ps : List (List D4)) (pa : Option Addr) (pn pc : Nat) (w : World) (hpn : ps.length = pn) (hpm : pn ≤ maxLen) (hP : ListsAt DeedsAt w pa ps) (hc : CfgOK cn cs cy cb) (hl : (pn : Int) = cn) :
    Calls Try.prog 46 #[.agg #[.int .i64 cn, .int .i64 cs, .int .i64 cy, .int .i64 cb], .slice pa pn pc] w (Ret (.int .i64 (fnz listP 0 ps)) w) := by
  have PC := fun w => check_any cn cs cy cb w
  rw [cfgE_ok hc] at PC
  have HC := Lib.hid PC
  have hcn : 2 ≤ cn ∧ cn ≤ 8 := ⟨hc.1, hc.2.1⟩
  have hpn8 : pn ≤ 8 := by omega
  have hlb : ((pn : Int) != cn) = false := by simpa using hl
  have HPP := Lib.hid hP
  have HPL := Lib.hid hpn
  clear PC hc hP hpn
  go_enter Try.func46, Try.ntmps46
  go_wp2_with (go_at_call 69; refine (HC.out _).mono ?_; rintro e w1 ⟨rfl, hb1⟩; obtain ⟨l1, d1, rfl⟩ := later_of hb1; clear hb1)
  go_loopw [23] (RelL listP ps ((w.alloc (.cells #[.int .i64 cn, .int .i64 cs, .int .i64 cy, .int .i64 cb] 42)))) (fun i _ => pn - (intOf i).toNat)
  case atStart => exact ⟨0, _, _, by omega, rfl, rfl, fun i x hi => by omega⟩
  case round =>
    obtain ⟨k, l, d, hk, rfl, rfl, hall⟩ := hrel
    by_cases hlt : k < pn
    · obtain ⟨P, hP⟩ := get_some (xs := ps) (k := k) (by rw [HPL.out]; exact hlt)
      obtain ⟨bp, offp, rfl⟩ := ListsAt.form HPP.out hP
      obtain ⟨qa, qc, hcell, hq1, hq2, hq3, hq4⟩ := ListsAt.at HPP.out hP
      have hin2 : inB w bp := lt_of_cell hcell
      have HALL := Lib.hid hall
      have HP := Lib.hid hP
      have HJ : Hid (k + 1 ≤ ps.length) := Lib.hid (by rw [HPL.out]; exact hlt)
      have HQ4 := Lib.hid hq4
      unfold maxLen at hq2
      clear hall hP hq3 hq4 hk
      by_cases h20 : 20 < P.length
      · have HV : Hid (listP (0 + k) P = 2) := Lib.hid (if_pos h20)
        have HE := Lib.hid ((fnz_at HALL.out HP.out (by rw [HV.out]; decide)).trans HV.out)
        have h20' : (20 : Int) < P.length := by omega
        go_wp2
        go_ret
        exact ⟨congrArg (fun z => Ending.returned (Value.int .i64 z)) HE.out.symm, (by repeat (first | exact Below.refl _ _ | apply bs_later | apply bs_alloc | apply bs_drew | apply bs_drewN))⟩
      · have HV0 : Hid (listP (0 + k) P = fnz (deedP (0 + k)) 0 P) := Lib.hid (if_neg h20)
        have h20' : ¬ (20 : Int) < P.length := by omega
        go_wp2
        go_loopw [33] (RelL (deedP (0 + k)) P (((w.alloc (.cells #[.int .i64 cn, .int .i64 cs, .int .i64 cy, .int .i64 cb] 42))).later l d)) (fun i _ => P.length - (intOf i).toNat)
        case atStart => exact ⟨0, #[], _, by omega, rfl, later_zero _, fun i x hi => by omega⟩
        case round =>
          obtain ⟨j, l2, d2, hj, rfl, rfl, hall2⟩ := hrel
          by_cases hjl : j < P.length
          · obtain ⟨y, hy⟩ := get_some (xs := P) (k := j) hjl
            obtain ⟨b2, off2, rfl⟩ := RowsAt.form HQ4.out (i := j) (r := y.cells) (by simp [hy])
            obtain ⟨e0, e1, e2, e3⟩ := DeedsAt.at HQ4.out hy
            have hin3 : inB w b2 := lt_of_cell e0
            have HALL2 := Lib.hid hall2
            have HY := Lib.hid hy
            clear hall2 hy hj
            obtain ⟨yn, yk, ya, yv⟩ := y
            simp only at e0 e1 e2 e3
            have PR := fun w => right_any yn yk ya yv w
            by_cases hr : rightE yn yk ya yv = 0
            · rw [hr] at PR
              have HR := Lib.hid PR
              by_cases hn : yn = (k : Int)
              · have HF : Hid (deedP (0 + k) (0 + j) ⟨yn, yk, ya, yv⟩ = 0) := Lib.hid (by unfold deedP; rw [if_pos hr, if_pos (by simpa using hn)])
                have hnb : (yn != (k : Int)) = false := by simpa using hn
                clear PR hr hn
                go_wp2_with (go_at_call 29; refine (HR.out _).mono ?_; rintro e w1 ⟨rfl, hb1⟩; obtain ⟨l3, d3, rfl⟩ := later_of hb1; clear hb1)
                exact ⟨⟨j + 1, _, _, hjl, by go_num, later_al _ _ _ _ _ _, next_all HY.out HALL2.out HF.out⟩, by simp [intOf]; omega⟩
              · have HF : Hid (deedP (0 + k) (0 + j) ⟨yn, yk, ya, yv⟩ = 3) := Lib.hid (by unfold deedP; rw [if_pos hr, if_neg (by simpa using hn)])
                have HD := Lib.hid ((fnz_at HALL2.out HY.out (by rw [HF.out]; decide)).trans HF.out)
                have HE := Lib.hid ((fnz_at HALL.out HP.out (by rw [HV0.out, HD.out]; decide)).trans (HV0.out.trans HD.out))
                have hnb : (yn != (k : Int)) = true := by simpa using hn
                clear PR hr hn
                go_wp2_with (go_at_call 29; refine (HR.out _).mono ?_; rintro e w1 ⟨rfl, hb1⟩; obtain ⟨l3, d3, rfl⟩ := later_of hb1; clear hb1)
                go_ret
                exact ⟨congrArg (fun z => Ending.returned (Value.int .i64 z)) HE.out.symm, (by repeat (first | exact Below.refl _ _ | apply bs_later | apply bs_alloc | apply bs_drew | apply bs_drewN))⟩
            · have HF : Hid (deedP (0 + k) (0 + j) ⟨yn, yk, ya, yv⟩ = rightE yn yk ya yv) := Lib.hid (if_neg hr)
              have HD := Lib.hid ((fnz_at HALL2.out HY.out (by rw [HF.out]; exact hr)).trans HF.out)
              have HE := Lib.hid ((fnz_at HALL.out HP.out (by rw [HV0.out, HD.out]; exact hr)).trans (HV0.out.trans HD.out))
              have hrb : (rightE yn yk ya yv != 0) = true := by simpa using hr
              have HR := Lib.hid PR
              clear PR hr
              go_wp2_with (go_at_call 29; refine (HR.out _).mono ?_; rintro e w1 ⟨rfl, hb1⟩; obtain ⟨l3, d3, rfl⟩ := later_of hb1; clear hb1)
              go_ret
              exact ⟨congrArg (fun z => Ending.returned (Value.int .i64 z)) HE.out.symm, (by repeat (first | exact Below.refl _ _ | apply bs_later | apply bs_alloc | apply bs_drew | apply bs_drewN))⟩
          · obtain rfl : j = P.length := by omega
            have HD := Lib.hid (fnz_ok (f := deedP (0 + k)) (xs := P) (s := 0) fun i y hy => hall2 i y (List.getElem?_eq_some_iff.1 hy).1 hy)
            have HV := Lib.hid (HV0.out.trans HD.out)
            clear hall2
            go_wp2
            exact ⟨⟨k + 1, _, _, HJ.out, by go_num, later_later _ _ _ _ _, next_all HP.out HALL.out HV.out⟩, by simp [intOf]; omega⟩
    · obtain rfl : k = pn := by have := HPL.out; omega
      have HE := Lib.hid (fnz_ok (f := listP) (xs := ps) (s := 0) fun i y hy => hall i y (by rw [← HPL.out]; exact (List.getElem?_eq_some_iff.1 hy).1) hy)
      clear hall
      go_wp2
      go_ret
      exact ⟨congrArg (fun z => Ending.returned (Value.int .i64 z)) HE.out.symm, (by repeat (first | exact Below.refl _ _ | apply bs_later | apply bs_alloc | apply bs_drew | apply bs_drewN))⟩
set_option maxHeartbeats 1000000 in
set_option maxRecDepth 100000 in
theorem progCheck_any (cn cs cy cb : Int) (ps : List (List D4)) (pa : Option Addr) (pn pc : Nat) (w : World) (hpn : ps.length = pn) (hpm : pn ≤ maxLen) (hP : ListsAt DeedsAt w pa ps) :
    Calls Try.prog 46 #[.agg #[.int .i64 cn, .int .i64 cs, .int .i64 cy, .int .i64 cb], .slice pa pn pc] w (Ret (.int .i64 (progsE cn cs cy cb ps)) w) := by
  have PC := fun w => check_any cn cs cy cb w
  unfold progsE
  by_cases hc : CfgOK cn cs cy cb
  · rw [if_pos (cfgE_ok hc), hpn]
    by_cases hl : (pn : Int) = cn
    · rw [if_pos hl]
      exact progCheck_ok cn cs cy cb ps pa pn pc w hpn hpm hP hc hl
    · rw [if_neg hl]
      rw [cfgE_ok hc] at PC
      have HC := Lib.hid PC
      have hlb : ((pn : Int) != cn) = true := by simpa using hl
      unfold maxLen at hpm
      clear PC hc hl hP hpn
      go_enter Try.func46, Try.ntmps46
      go_wp2_with (go_at_call 69; refine (HC.out _).mono ?_; rintro e w1 ⟨rfl, hb1⟩; obtain ⟨l1, d1, rfl⟩ := later_of hb1; clear hb1)
      go_ret
      exact ⟨rfl, (by repeat (first | exact Below.refl _ _ | apply bs_later | apply bs_alloc | apply bs_drew | apply bs_drewN))⟩
  · rw [if_neg (by rw [cfgE_bad hc]; decide), cfgE_bad hc]
    rw [cfgE_bad hc] at PC
    have HC := Lib.hid PC
    clear PC hc hP hpn
    go_enter Try.func46, Try.ntmps46
    go_wp2_with (go_at_call 69; refine (HC.out _).mono ?_; rintro e w1 ⟨rfl, hb1⟩; obtain ⟨l1, d1, rfl⟩ := later_of hb1; clear hb1)
    go_ret
    exact ⟨rfl, (by repeat (first | exact Below.refl _ _ | apply bs_later | apply bs_alloc | apply bs_drew | apply bs_drewN))⟩
end Go.Proofs.Ytffhfpdmfegcpab.prog
