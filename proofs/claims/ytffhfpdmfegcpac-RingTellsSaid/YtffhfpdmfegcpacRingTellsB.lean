/- ringdovelaw.RingTells, some of its cases. -/
import Derived.Test.YtffhfpdmfegcpacRingTells
import Derived.Deep.RegionWith
namespace Go.Proofs.Ytffhfpdmfegcpac.ringTells
open Go.ChangeShapes Go.WideShapes Go.ChangeAt Go.RowKit
open Go.Proofs.Ytffhfpdmfegcpac.base Go.Proofs.Ytffhfpdmfegcpac.knob Go.Proofs.Ytffhfpdmfegcpac.flat Go.Proofs.Ytffhfpdmfegcpac.table Go.Proofs.Ytffhfpdmfegcpac.addr Go.Proofs.Ytffhfpdmfegcpac.slot
set_option linter.unusedVariables false
set_option linter.unusedSimpArgs false

set_option maxHeartbeats 4000000 in
set_option maxRecDepth 100000 in
theorem w_slots_r (cn cs cy cb : Int) (slots : Int) (node wait : Int) (ss : List S4) (b off : Nat) (rn rc : Nat) (w : World) (hnc : rn ≤ rc) (hcm : rc ≤ maxLen) (hd : ss.length = rn) (h : SlotsAt w (some ⟨b, off, none⟩) ss) (hc : CfgOK cn cs cy cb) (hl : slots < 1 ∨ (1 ≤ slots ∧ 8 < slots)) (hr : ringE cn cs cy cb ss = 0) (hor : node < 0 ∨ (0 ≤ node ∧ cn ≤ node) ∨ ((0 ≤ node ∧ node < cn) ∧ wait < 0) ∨ ((0 ≤ node ∧ node < cn) ∧ 0 ≤ wait ∧ 9 < wait)) :
    Calls Try.prog 6 #[.agg #[.int .i64 cn, .int .i64 cs, .int .i64 cy, .int .i64 cb], .int .i64 slots, .slice (some ⟨b, off, none⟩) rn rc, .int .i64 node, .int .i64 wait] w (Ret (.bool true) w) := by
  have HN := Lib.hid fun w => new_bad (cn := cn) (cs := cs) (cy := cy) (cb := cb) (slots := slots) (.inr (by omega)) w
  have HL := Lib.hid fun w => long_bad (cn := cn) (cs := cs) (cy := cy) (cb := cb) (slots := slots) (.inr (by omega)) w
  have PC := fun w => refCfg.configFault_any cn cs cy cb w
  rw [cfgE_ok hc] at PC
  have HC := Lib.hid PC
  have hcn : 2 ≤ cn ∧ cn ≤ 8 := ⟨hc.1, hc.2.1⟩
  have HRF := Lib.hid fun w h => ringFault_any cn cs cy cb ss (some ⟨b, off, none⟩) rn rc w hnc hcm hd h
  have HRC := Lib.hid fun w h => ringCheck_any cn cs cy cb ss (some ⟨b, off, none⟩) rn rc w hnc hcm hd h
  rw [hr] at HRF HRC
  have hlen := ringE_len hr
  have hok := ringOK_iff.1 hlen.2.2.2
  have hrn1 : 1 ≤ rn := by omega
  have hrn8 : rn ≤ 8 := by omega
  have HS := Lib.hid fun w h => step_z (a := some ⟨b, off, none⟩) hr hnc hcm hd w h
  have hoks := ok_of (stepL_ok hcn.1 hok) hcn.2
  have hb8 : (ascL (toldL cn ss)).length ≤ 8 := by rw [← told_len hr]; unfold toldL; rw [List.length_map]; exact Nat.le_trans (List.length_filter_le _ _) (by omega)
  have hls : (stepL cn ss).length = rn := by rw [len_stepL, hd]
  have PS1 := fun w a3 c3 a c h1 h2 => sameRing_any a3 a rn c3 rn c w (stepL cn ss) (stepL cn ss) hls hls (by unfold maxLen; omega) (by unfold maxLen; omega) hoks hoks h1 h2
  rw [sameL_yes rfl] at PS1
  have PE := fun w a4 c4 a c h1 h2 => eqInt.equal_same a4 a c4 c w (ascL (toldL cn ss)) (ascL (toldL cn ss)) rfl (by unfold maxLen; omega) h1 h2
  rw [decide_eq_true rfl] at PE
  have HPS1 := Lib.hid PS1
  have HPE := Lib.hid PE
  have PRS := fun w h => refStep_ok cn cs cy cb ss b off rn rc w hnc hcm hd h hr
  unfold RefStepPost at PRS
  rw [hd] at PRS
  have HRS := Lib.hid PRS
  have HT := Lib.hid h
  have hE : putE cn cs cy cb node wait ss = 4 := by unfold putE; rw [if_pos hr, if_pos (by omega)]
  have HP := Lib.hid fun w h => put_e (a := some ⟨b, off, none⟩) hE (by decide) hnc hcm hd w h
  clear hlen hok hr h PC PRS hoks hls PS1 PE hE hd hc hb8
  rcases hl with hl | ⟨hl1, hl8⟩
  all_goals
    rcases hor with h1 | ⟨h1, h2⟩ | ⟨⟨h1, h2⟩, h3⟩ | ⟨⟨h1, h2⟩, h3, h4⟩
    all_goals
      go_enter Try.func6, Try.ntmps6
      go_wp2_with (first
        | (go_at_call 24; refine (HN.out _).mono ?_; rintro e w1 ⟨rfl, hb1⟩; obtain ⟨l1, d1, rfl⟩ := later_of hb1; clear hb1)
        | (go_at_call 25; refine (HP.out _ (SlotsAt.below HT.out (by repeat (first | exact Below.refl _ _ | apply bs_later | apply bs_alloc | apply bs_drew | apply bs_drewN)))).mono ?_; rintro e w1 ⟨rfl, hb1⟩; obtain ⟨l2, d2, rfl⟩ := later_of hb1; clear hb1)
        | (go_at_call 26; refine (HS.out _ (SlotsAt.below HT.out (by repeat (first | exact Below.refl _ _ | apply bs_later | apply bs_alloc | apply bs_drew | apply bs_drewN)))).mono ?_; rintro e w1 ⟨a3, c3, a4, c4, rfl, hf, hg, hb1⟩; obtain ⟨l3, d3, rfl⟩ := later_of hb1; have HS3 := Lib.hid hf; have HT4 := Lib.hid hg; clear hb1 hf hg)
        | (go_at_call 27; refine (HL.out _).mono ?_; rintro e w1 ⟨rfl, hb1⟩; obtain ⟨l4, d4, rfl⟩ := later_of hb1; clear hb1)
        | (go_at_call 28; refine (HC.out _).mono ?_; rintro e w1 ⟨rfl, hb1⟩; obtain ⟨l5, d5, rfl⟩ := later_of hb1; clear hb1)
        | (go_at_call 30; refine (HRF.out _ (SlotsAt.below HT.out (by repeat (first | exact Below.refl _ _ | apply bs_later | apply bs_alloc | apply bs_drew | apply bs_drewN)))).mono ?_; rintro e w1 ⟨rfl, hb1⟩; obtain ⟨l7, d7, rfl⟩ := later_of hb1; clear hb1)
        | (go_at_call 31; refine (HRC.out _ (SlotsAt.below HT.out (by repeat (first | exact Below.refl _ _ | apply bs_later | apply bs_alloc | apply bs_drew | apply bs_drewN)))).mono ?_; rintro e w1 ⟨rfl, hb1⟩; obtain ⟨l8, d8, rfl⟩ := later_of hb1; clear hb1)
        | (go_at_call 32; refine (HRS.out _ (SlotsAt.below HT.out (by repeat (first | exact Below.refl _ _ | apply bs_later | apply bs_alloc | apply bs_drew | apply bs_drewN)))).mono ?_; rintro e w1 ⟨hb1, a9, c9, b9, e9, rfl, q1, q2, q3, q4, q5, q6⟩; obtain ⟨l9, d9, rfl⟩ := later_of hb1; have HQ5 := Lib.hid q5; have HQ6 := Lib.hid q6; clear hb1 q1 q2 q3 q4 q5 q6)
        | (go_at_call 33; refine (HPE.out _ _ _ _ _ (ints_below HT4.out (by repeat (first | exact Below.refl _ _ | apply bs_later | apply bs_alloc | apply bs_drew | apply bs_drewN))) (ints_below HQ6.out (by repeat (first | exact Below.refl _ _ | apply bs_later | apply bs_alloc | apply bs_drew | apply bs_drewN)))).mono ?_; rintro e w1 ⟨rfl, dn, rfl⟩)
        | (go_at_call_of 29 (Value.slice a3 rn c3); refine (HPS1.out _ _ _ _ _ (SlotsAt.below HS3.out (by repeat (first | exact Below.refl _ _ | apply bs_later | apply bs_alloc | apply bs_drew | apply bs_drewN))) (SlotsAt.below HQ5.out (by repeat (first | exact Below.refl _ _ | apply bs_later | apply bs_alloc | apply bs_drew | apply bs_drewN)))).mono ?_; rintro e w1 ⟨rfl, hb1⟩; obtain ⟨ls, ds, rfl⟩ := later_of hb1; clear hb1))
      go_ret
      exact ⟨rfl, (by repeat (first | exact Below.refl _ _ | apply bs_later | apply bs_alloc | apply bs_drew | apply bs_drewN))⟩
end Go.Proofs.Ytffhfpdmfegcpac.ringTells
