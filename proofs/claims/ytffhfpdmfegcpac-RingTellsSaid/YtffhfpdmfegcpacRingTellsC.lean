/- ringdovelaw.RingTells, some of its cases. -/
import Derived.Test.YtffhfpdmfegcpacRingTells
import Derived.Deep.RegionWith
namespace Go.Proofs.Ytffhfpdmfegcpac.ringTells
open Go.ChangeShapes Go.WideShapes Go.ChangeAt Go.RowKit
open Go.Proofs.Ytffhfpdmfegcpac.base Go.Proofs.Ytffhfpdmfegcpac.knob Go.Proofs.Ytffhfpdmfegcpac.flat Go.Proofs.Ytffhfpdmfegcpac.table Go.Proofs.Ytffhfpdmfegcpac.addr Go.Proofs.Ytffhfpdmfegcpac.slot
set_option linter.unusedVariables false
set_option linter.unusedSimpArgs false

set_option maxHeartbeats 4000000 in
set_option maxRecDepth 100000 in
theorem w_ok_e (cn cs cy cb : Int) (fn : Nat) (node wait : Int) (ss : List S4) (ra : Option Addr) (rn rc : Nat) (w : World) (hnc : rn ≤ rc) (hcm : rc ≤ maxLen) (hd : ss.length = rn) (h : SlotsAt w ra ss) (hc : CfgOK cn cs cy cb) (hl : 1 ≤ fn ∧ fn ≤ 8) (hr : ¬ ringE cn cs cy cb ss = 0) :
    Calls Try.prog 6 #[.agg #[.int .i64 cn, .int .i64 cs, .int .i64 cy, .int .i64 cb], .int .i64 (fn : Int), .slice ra rn rc, .int .i64 node, .int .i64 wait] w (Ret (.bool true) w) := by
  have HN := Lib.hid fun w => new_ok (cn := cn) (cs := cs) (cy := cy) (cb := cb) (n := fn) hc hl w
  have HL := Lib.hid fun w => long_ok (cn := cn) (cs := cs) (cy := cy) (cb := cb) (n := fn) hc hl w
  obtain ⟨hl1, hl8⟩ := hl
  have PC := fun w => refCfg.configFault_any cn cs cy cb w
  rw [cfgE_ok hc] at PC
  have HC := Lib.hid PC
  have hcn : 2 ≤ cn ∧ cn ≤ 8 := ⟨hc.1, hc.2.1⟩
  have HRF := Lib.hid fun w h => ringFault_any cn cs cy cb ss ra rn rc w hnc hcm hd h
  have HRC := Lib.hid fun w h => ringCheck_any cn cs cy cb ss ra rn rc w hnc hcm hd h
  have HP := Lib.hid fun w h => put_e (node := node) (wait := wait) (a := ra) (show putE cn cs cy cb node wait ss = ringE cn cs cy cb ss from if_neg hr) hr hnc hcm hd w h
  have HS := Lib.hid fun w h => step_e (a := ra) (show ringE cn cs cy cb ss = ringE cn cs cy cb ss from rfl) hr hnc hcm hd w h
  have hr1 : (ringE cn cs cy cb ss != 0) = true := by simpa using hr
  have HT := Lib.hid h
  clear hr h PC hd hc
  go_enter Try.func6, Try.ntmps6
  obtain ⟨i4, ji, jz0, jz1, jz2⟩ := info_parts info_slot
  go_wp2_with (first
    | (go_at_call 24; refine (HN.out _).mono ?_; rintro e w1 ⟨a1, rfl, hf, hb1⟩; obtain ⟨l1, d1, rfl⟩ := later_of hb1; have HF1 := Lib.hid hf; clear hb1 hf)
    | (go_at_call 25; refine (HP.out _ (SlotsAt.below HT.out (by repeat (first | exact Below.refl _ _ | apply bs_later | apply bs_alloc | apply bs_drew | apply bs_drewN)))).mono ?_; rintro e w1 ⟨rfl, hb1⟩; obtain ⟨l2, d2, rfl⟩ := later_of hb1; clear hb1)
    | (go_at_call 26; refine (HS.out _ (SlotsAt.below HT.out (by repeat (first | exact Below.refl _ _ | apply bs_later | apply bs_alloc | apply bs_drew | apply bs_drewN)))).mono ?_; rintro e w1 ⟨rfl, hb1⟩; obtain ⟨l3, d3, rfl⟩ := later_of hb1; clear hb1)
    | (go_at_call 27; refine (HL.out _).mono ?_; rintro e w1 ⟨rfl, hb1⟩; obtain ⟨l4, d4, rfl⟩ := later_of hb1; clear hb1)
    | (go_at_call 28; refine (HC.out _).mono ?_; rintro e w1 ⟨rfl, hb1⟩; obtain ⟨l5, d5, rfl⟩ := later_of hb1; clear hb1))
  go_loopw [22, 88] (RelW cn fn (((((w.alloc (.cells #[.int .i64 cn, .int .i64 cs, .int .i64 cy, .int .i64 cb] 54)).later l1 d1).later l2 d2).later l3 d3).later l4 d4)) (fun _ i _ => fn - (intOf i).toNat)
  case atStart => exact ⟨0, _, _, by omega, rfl, rfl, World.ownsRow_nil _ _ _ _⟩
  case round =>
    obtain ⟨k, l6, d6, hk, rfl, rfl, hown⟩ := hrel
    have HO := Lib.hid (own_any hown)
    by_cases hlt : k < fn
    · have HX := Lib.hid (newL_get (cn := cn) (n := fn) (k := fn) hlt)
      rw [if_pos hlt] at HX
      clear hown
      go_wp2_with (at_builtin; refine wpList_append_own _ rfl _ _ 74 rfl _ 85 i4 _ 4 32 Try.underlying74 ji jz0 jz1 jz2 rfl (by decide) _ _ _ rfl ((HO.out _).alloc _) ⟨_, 0, none⟩ 1 1 [.int .i64 ((k : Int) % cn), .bool false, .int .i64 0, .int .i64 0] rfl rfl ?d1z1 ?d2z1 ?d3z1 ?d4z1 ?d5z1 ?_)
      try (case d1z1 => exact four_newS (by simp))
      try (case d2z1 => first | exact one_cellX _ _ _ _ | exact ⟨rfl, rfl, rfl⟩ | (simp [Value.oneCell']; done))
      try (case d3z1 => unfold maxLen; omega)
      try (case d4z1 => omega)
      try (case d5z1 => first | omega | (simp; omega))
      intro v' w1 hown2 hgrow hnil
      have hb5 := below_grown (W0 := ((((w.alloc (.cells #[.int .i64 cn, .int .i64 cs, .int .i64 cy, .int .i64 cb] 54)).later l1 d1).later l2 d2).later l3 d3).later l4 d4) (by repeat (first | exact Below.refl _ _ | apply bs_later | apply bs_alloc | apply bs_drew | apply bs_drewN)) hgrow (fun g' hg' => ((HO.out 0).lt g' hg').1)
      obtain ⟨l7, d7, rfl⟩ := later_of hb5
      have HNx := Lib.hid (own_any hown2)
      clear hown2 hgrow hnil hb5
      have hq := Lib.hid (own_le (base' := (((((w.alloc (.cells #[.int .i64 cn, .int .i64 cs, .int .i64 cy, .int .i64 cb] 54)).later l1 d1).later l2 d2).later l3 d3).later l4 d4).heap.size) (HNx.out d7) (by first | (simp; done) | (simp; omega)))
      go_wp2
      exact ⟨⟨k + 1, _, _, hlt, by go_num, rfl, by rw [List.take_add_one, HX.out]; exact (cellsS_snoc _ _).symm ▸ hq.out⟩, by simp [intOf]; omega⟩
    · obtain rfl : k = fn := by omega
      obtain ⟨sa, sc, hv⟩ := own_form hown
      subst hv
      have htk : (newL cn k k).take k = newL cn k k := List.take_of_length_le (by rw [len_newL]; exact Nat.le_refl _)
      rw [htk] at hown
      have HSL := Lib.hid (own_slots_n (len_newL cn k k) hown)
      have hokn : ∀ x ∈ newL cn k k, x.Ok := newL_ok hcn.1 hcn.2
      have PS0 := fun w h1 h2 => sameRing_any a1 sa k k k sc w (newL cn k k) (newL cn k k) (len_newL cn k k) (len_newL cn k k) (by unfold maxLen; omega) (by unfold maxLen; omega) hokn hokn h1 h2
      rw [sameL_yes rfl] at PS0
      have HPS0 := Lib.hid PS0
      clear hown hokn htk HO PS0
      go_wp2_with (first
        | (go_at_call_of 29 (Value.slice a1 k k); refine (HPS0.out _ (SlotsAt.below HF1.out (by repeat (first | exact Below.refl _ _ | apply bs_later | apply bs_alloc | apply bs_drew | apply bs_drewN))) (SlotsAt.below HSL.out (by repeat (first | exact Below.refl _ _ | apply bs_later | apply bs_alloc | apply bs_drew | apply bs_drewN)))).mono ?_; rintro e w1 ⟨rfl, hb1⟩; obtain ⟨lz, dz, rfl⟩ := later_of hb1; clear hb1)
        | (go_at_call 30; refine (HRF.out _ (SlotsAt.below HT.out (by repeat (first | exact Below.refl _ _ | apply bs_later | apply bs_alloc | apply bs_drew | apply bs_drewN)))).mono ?_; rintro e w1 ⟨rfl, hb1⟩; obtain ⟨l7, d7, rfl⟩ := later_of hb1; clear hb1)
        | (go_at_call 31; refine (HRC.out _ (SlotsAt.below HT.out (by repeat (first | exact Below.refl _ _ | apply bs_later | apply bs_alloc | apply bs_drew | apply bs_drewN)))).mono ?_; rintro e w1 ⟨rfl, hb1⟩; obtain ⟨l8, d8, rfl⟩ := later_of hb1; clear hb1))
      go_ret
      exact ⟨rfl, (by repeat (first | exact Below.refl _ _ | apply bs_later | apply bs_alloc | apply bs_drew | apply bs_drewN))⟩

set_option maxHeartbeats 4000000 in
set_option maxRecDepth 100000 in
theorem w_ok_u (cn cs cy cb : Int) (fn : Nat) (node wait : Int) (ss : List S4) (b off : Nat) (rn rc : Nat) (w : World) (hnc : rn ≤ rc) (hcm : rc ≤ maxLen) (hd : ss.length = rn) (h : SlotsAt w (some ⟨b, off, none⟩) ss) (hc : CfgOK cn cs cy cb) (hl : 1 ≤ fn ∧ fn ≤ 8) (hr : ringE cn cs cy cb ss = 0) (h12 : (0 ≤ node ∧ node ≤ cn - 1) ∧ (0 ≤ wait ∧ wait ≤ 9)) (hby : byB ss node = true) :
    Calls Try.prog 6 #[.agg #[.int .i64 cn, .int .i64 cs, .int .i64 cy, .int .i64 cb], .int .i64 (fn : Int), .slice (some ⟨b, off, none⟩) rn rc, .int .i64 node, .int .i64 wait] w (Ret (.bool true) w) := by
  have HN := Lib.hid fun w => new_ok (cn := cn) (cs := cs) (cy := cy) (cb := cb) (n := fn) hc hl w
  have HL := Lib.hid fun w => long_ok (cn := cn) (cs := cs) (cy := cy) (cb := cb) (n := fn) hc hl w
  obtain ⟨hl1, hl8⟩ := hl
  have PC := fun w => refCfg.configFault_any cn cs cy cb w
  rw [cfgE_ok hc] at PC
  have HC := Lib.hid PC
  have hcn : 2 ≤ cn ∧ cn ≤ 8 := ⟨hc.1, hc.2.1⟩
  have HRF := Lib.hid fun w h => ringFault_any cn cs cy cb ss (some ⟨b, off, none⟩) rn rc w hnc hcm hd h
  have HRC := Lib.hid fun w h => ringCheck_any cn cs cy cb ss (some ⟨b, off, none⟩) rn rc w hnc hcm hd h
  rw [hr] at HRF HRC
  have hlen := ringE_len hr
  have hok := ringOK_iff.1 hlen.2.2.2
  have hrn1 : 1 ≤ rn := by omega
  have hrn8 : rn ≤ 8 := by omega
  have HS := Lib.hid fun w h => step_z (a := some ⟨b, off, none⟩) hr hnc hcm hd w h
  have hoks := ok_of (stepL_ok hcn.1 hok) hcn.2
  have hb8 : (ascL (toldL cn ss)).length ≤ 8 := by rw [← told_len hr]; unfold toldL; rw [List.length_map]; exact Nat.le_trans (List.length_filter_le _ _) (by omega)
  have hls : (stepL cn ss).length = rn := by rw [len_stepL, hd]
  have PS1 := fun w a3 c3 a c h1 h2 => sameRing_any a3 a rn c3 rn c w (stepL cn ss) (stepL cn ss) hls hls (by unfold maxLen; omega) (by unfold maxLen; omega) hoks hoks h1 h2
  rw [sameL_yes rfl] at PS1
  have PE := fun w a4 c4 a c h1 h2 => eqInt.equal_same a4 a c4 c w (ascL (toldL cn ss)) (ascL (toldL cn ss)) rfl (by unfold maxLen; omega) h1 h2
  rw [decide_eq_true rfl] at PE
  have HPS1 := Lib.hid PS1
  have HPE := Lib.hid PE
  have PRS := fun w h => refStep_ok cn cs cy cb ss b off rn rc w hnc hcm hd h hr
  unfold RefStepPost at PRS
  rw [hd] at PRS
  have HRS := Lib.hid PRS
  have HT := Lib.hid h
  have hE : putE cn cs cy cb node wait ss = 6 := by unfold putE; rw [if_pos hr, if_neg (fun h => h h12), if_pos hby]
  have HP := Lib.hid fun w h => put_e (a := some ⟨b, off, none⟩) hE (by decide) hnc hcm hd w h
  have PU := fun w h => under_any ss node (some ⟨b, off, none⟩) rn rc w (by unfold maxLen; omega) hd h
  rw [hby] at PU
  have HUN := Lib.hid PU
  obtain ⟨⟨h1, h2⟩, h3, h4⟩ := h12
  have h2x : node < cn := by omega
  clear PU hby
  clear hlen hok hr h PC PRS hoks hls PS1 PE hE hd hc hb8
  go_enter Try.func6, Try.ntmps6
  obtain ⟨i4, ji, jz0, jz1, jz2⟩ := info_parts info_slot
  go_wp2_with (first
    | (go_at_call 24; refine (HN.out _).mono ?_; rintro e w1 ⟨a1, rfl, hf, hb1⟩; obtain ⟨l1, d1, rfl⟩ := later_of hb1; have HF1 := Lib.hid hf; clear hb1 hf)
    | (go_at_call 25; refine (HP.out _ (SlotsAt.below HT.out (by repeat (first | exact Below.refl _ _ | apply bs_later | apply bs_alloc | apply bs_drew | apply bs_drewN)))).mono ?_; rintro e w1 ⟨rfl, hb1⟩; obtain ⟨l2, d2, rfl⟩ := later_of hb1; clear hb1)
    | (go_at_call 26; refine (HS.out _ (SlotsAt.below HT.out (by repeat (first | exact Below.refl _ _ | apply bs_later | apply bs_alloc | apply bs_drew | apply bs_drewN)))).mono ?_; rintro e w1 ⟨a3, c3, a4, c4, rfl, hf, hg, hb1⟩; obtain ⟨l3, d3, rfl⟩ := later_of hb1; have HS3 := Lib.hid hf; have HT4 := Lib.hid hg; clear hb1 hf hg)
    | (go_at_call 27; refine (HL.out _).mono ?_; rintro e w1 ⟨rfl, hb1⟩; obtain ⟨l4, d4, rfl⟩ := later_of hb1; clear hb1)
    | (go_at_call 28; refine (HC.out _).mono ?_; rintro e w1 ⟨rfl, hb1⟩; obtain ⟨l5, d5, rfl⟩ := later_of hb1; clear hb1))
  go_loopw [22, 88] (RelW cn fn (((((w.alloc (.cells #[.int .i64 cn, .int .i64 cs, .int .i64 cy, .int .i64 cb] 54)).later l1 d1).later l2 d2).later l3 d3).later l4 d4)) (fun _ i _ => fn - (intOf i).toNat)
  case atStart => exact ⟨0, _, _, by omega, rfl, rfl, World.ownsRow_nil _ _ _ _⟩
  case round =>
    obtain ⟨k, l6, d6, hk, rfl, rfl, hown⟩ := hrel
    have HO := Lib.hid (own_any hown)
    by_cases hlt : k < fn
    · have HX := Lib.hid (newL_get (cn := cn) (n := fn) (k := fn) hlt)
      rw [if_pos hlt] at HX
      clear hown
      go_wp2_with (at_builtin; refine wpList_append_own _ rfl _ _ 74 rfl _ 85 i4 _ 4 32 Try.underlying74 ji jz0 jz1 jz2 rfl (by decide) _ _ _ rfl ((HO.out _).alloc _) ⟨_, 0, none⟩ 1 1 [.int .i64 ((k : Int) % cn), .bool false, .int .i64 0, .int .i64 0] rfl rfl ?d1z2 ?d2z2 ?d3z2 ?d4z2 ?d5z2 ?_)
      try (case d1z2 => exact four_newS (by simp))
      try (case d2z2 => first | exact one_cellX _ _ _ _ | exact ⟨rfl, rfl, rfl⟩ | (simp [Value.oneCell']; done))
      try (case d3z2 => unfold maxLen; omega)
      try (case d4z2 => omega)
      try (case d5z2 => first | omega | (simp; omega))
      intro v' w1 hown2 hgrow hnil
      have hb5 := below_grown (W0 := ((((w.alloc (.cells #[.int .i64 cn, .int .i64 cs, .int .i64 cy, .int .i64 cb] 54)).later l1 d1).later l2 d2).later l3 d3).later l4 d4) (by repeat (first | exact Below.refl _ _ | apply bs_later | apply bs_alloc | apply bs_drew | apply bs_drewN)) hgrow (fun g' hg' => ((HO.out 0).lt g' hg').1)
      obtain ⟨l7, d7, rfl⟩ := later_of hb5
      have HNx := Lib.hid (own_any hown2)
      clear hown2 hgrow hnil hb5
      have hq := Lib.hid (own_le (base' := (((((w.alloc (.cells #[.int .i64 cn, .int .i64 cs, .int .i64 cy, .int .i64 cb] 54)).later l1 d1).later l2 d2).later l3 d3).later l4 d4).heap.size) (HNx.out d7) (by first | (simp; done) | (simp; omega)))
      go_wp2
      exact ⟨⟨k + 1, _, _, hlt, by go_num, rfl, by rw [List.take_add_one, HX.out]; exact (cellsS_snoc _ _).symm ▸ hq.out⟩, by simp [intOf]; omega⟩
    · obtain rfl : k = fn := by omega
      obtain ⟨sa, sc, hv⟩ := own_form hown
      subst hv
      have htk : (newL cn k k).take k = newL cn k k := List.take_of_length_le (by rw [len_newL]; exact Nat.le_refl _)
      rw [htk] at hown
      have HSL := Lib.hid (own_slots_n (len_newL cn k k) hown)
      have hokn : ∀ x ∈ newL cn k k, x.Ok := newL_ok hcn.1 hcn.2
      have PS0 := fun w h1 h2 => sameRing_any a1 sa k k k sc w (newL cn k k) (newL cn k k) (len_newL cn k k) (len_newL cn k k) (by unfold maxLen; omega) (by unfold maxLen; omega) hokn hokn h1 h2
      rw [sameL_yes rfl] at PS0
      have HPS0 := Lib.hid PS0
      clear hown hokn htk HO PS0
      go_wp2_with (first
        | (go_at_call_of 29 (Value.slice a1 k k); refine (HPS0.out _ (SlotsAt.below HF1.out (by repeat (first | exact Below.refl _ _ | apply bs_later | apply bs_alloc | apply bs_drew | apply bs_drewN))) (SlotsAt.below HSL.out (by repeat (first | exact Below.refl _ _ | apply bs_later | apply bs_alloc | apply bs_drew | apply bs_drewN)))).mono ?_; rintro e w1 ⟨rfl, hb1⟩; obtain ⟨lz, dz, rfl⟩ := later_of hb1; clear hb1)
        | (go_at_call 30; refine (HRF.out _ (SlotsAt.below HT.out (by repeat (first | exact Below.refl _ _ | apply bs_later | apply bs_alloc | apply bs_drew | apply bs_drewN)))).mono ?_; rintro e w1 ⟨rfl, hb1⟩; obtain ⟨l7, d7, rfl⟩ := later_of hb1; clear hb1)
        | (go_at_call 31; refine (HRC.out _ (SlotsAt.below HT.out (by repeat (first | exact Below.refl _ _ | apply bs_later | apply bs_alloc | apply bs_drew | apply bs_drewN)))).mono ?_; rintro e w1 ⟨rfl, hb1⟩; obtain ⟨l8, d8, rfl⟩ := later_of hb1; clear hb1)
        | (go_at_call 32; refine (HRS.out _ (SlotsAt.below HT.out (by repeat (first | exact Below.refl _ _ | apply bs_later | apply bs_alloc | apply bs_drew | apply bs_drewN)))).mono ?_; rintro e w1 ⟨hb1, a9, c9, b9, e9, rfl, q1, q2, q3, q4, q5, q6⟩; obtain ⟨l9, d9, rfl⟩ := later_of hb1; have HQ5 := Lib.hid q5; have HQ6 := Lib.hid q6; clear hb1 q1 q2 q3 q4 q5 q6)
        | (go_at_call 33; refine (HPE.out _ _ _ _ _ (ints_below HT4.out (by repeat (first | exact Below.refl _ _ | apply bs_later | apply bs_alloc | apply bs_drew | apply bs_drewN))) (ints_below HQ6.out (by repeat (first | exact Below.refl _ _ | apply bs_later | apply bs_alloc | apply bs_drew | apply bs_drewN)))).mono ?_; rintro e w1 ⟨rfl, dn, rfl⟩)
        | (go_at_call 34; refine (HUN.out _ (SlotsAt.below HT.out (by repeat (first | exact Below.refl _ _ | apply bs_later | apply bs_alloc | apply bs_drew | apply bs_drewN)))).mono ?_; rintro e w1 ⟨rfl, hb1⟩; obtain ⟨lu, du, rfl⟩ := later_of hb1; clear hb1)
        | (go_at_call_of 29 (Value.slice a3 rn c3); refine (HPS1.out _ _ _ _ _ (SlotsAt.below HS3.out (by repeat (first | exact Below.refl _ _ | apply bs_later | apply bs_alloc | apply bs_drew | apply bs_drewN))) (SlotsAt.below HQ5.out (by repeat (first | exact Below.refl _ _ | apply bs_later | apply bs_alloc | apply bs_drew | apply bs_drewN)))).mono ?_; rintro e w1 ⟨rfl, hb1⟩; obtain ⟨ls, ds, rfl⟩ := later_of hb1; clear hb1))
      go_ret
      exact ⟨rfl, (by repeat (first | exact Below.refl _ _ | apply bs_later | apply bs_alloc | apply bs_drew | apply bs_drewN))⟩

set_option maxHeartbeats 4000000 in
set_option maxRecDepth 100000 in
theorem w_ok_p (cn cs cy cb : Int) (fn : Nat) (node wait : Int) (ss : List S4) (b off : Nat) (rn rc : Nat) (w : World) (hnc : rn ≤ rc) (hcm : rc ≤ maxLen) (hd : ss.length = rn) (h : SlotsAt w (some ⟨b, off, none⟩) ss) (hc : CfgOK cn cs cy cb) (hl : 1 ≤ fn ∧ fn ≤ 8) (hr : ringE cn cs cy cb ss = 0) (h12 : (0 ≤ node ∧ node ≤ cn - 1) ∧ (0 ≤ wait ∧ wait ≤ 9)) (hby : byB ss node = false) :
    Calls Try.prog 6 #[.agg #[.int .i64 cn, .int .i64 cs, .int .i64 cy, .int .i64 cb], .int .i64 (fn : Int), .slice (some ⟨b, off, none⟩) rn rc, .int .i64 node, .int .i64 wait] w (Ret (.bool true) w) := by
  have HN := Lib.hid fun w => new_ok (cn := cn) (cs := cs) (cy := cy) (cb := cb) (n := fn) hc hl w
  have HL := Lib.hid fun w => long_ok (cn := cn) (cs := cs) (cy := cy) (cb := cb) (n := fn) hc hl w
  obtain ⟨hl1, hl8⟩ := hl
  have PC := fun w => refCfg.configFault_any cn cs cy cb w
  rw [cfgE_ok hc] at PC
  have HC := Lib.hid PC
  have hcn : 2 ≤ cn ∧ cn ≤ 8 := ⟨hc.1, hc.2.1⟩
  have HRF := Lib.hid fun w h => ringFault_any cn cs cy cb ss (some ⟨b, off, none⟩) rn rc w hnc hcm hd h
  have HRC := Lib.hid fun w h => ringCheck_any cn cs cy cb ss (some ⟨b, off, none⟩) rn rc w hnc hcm hd h
  rw [hr] at HRF HRC
  have hlen := ringE_len hr
  have hok := ringOK_iff.1 hlen.2.2.2
  have hrn1 : 1 ≤ rn := by omega
  have hrn8 : rn ≤ 8 := by omega
  have HS := Lib.hid fun w h => step_z (a := some ⟨b, off, none⟩) hr hnc hcm hd w h
  have hoks := ok_of (stepL_ok hcn.1 hok) hcn.2
  have hb8 : (ascL (toldL cn ss)).length ≤ 8 := by rw [← told_len hr]; unfold toldL; rw [List.length_map]; exact Nat.le_trans (List.length_filter_le _ _) (by omega)
  have hls : (stepL cn ss).length = rn := by rw [len_stepL, hd]
  have PS1 := fun w a3 c3 a c h1 h2 => sameRing_any a3 a rn c3 rn c w (stepL cn ss) (stepL cn ss) hls hls (by unfold maxLen; omega) (by unfold maxLen; omega) hoks hoks h1 h2
  rw [sameL_yes rfl] at PS1
  have PE := fun w a4 c4 a c h1 h2 => eqInt.equal_same a4 a c4 c w (ascL (toldL cn ss)) (ascL (toldL cn ss)) rfl (by unfold maxLen; omega) h1 h2
  rw [decide_eq_true rfl] at PE
  have HPS1 := Lib.hid PS1
  have HPE := Lib.hid PE
  have PRS := fun w h => refStep_ok cn cs cy cb ss b off rn rc w hnc hcm hd h hr
  unfold RefStepPost at PRS
  rw [hd] at PRS
  have HRS := Lib.hid PRS
  have HT := Lib.hid h
  have hE : putE cn cs cy cb node wait ss = 0 := by unfold putE; rw [if_pos hr, if_neg (fun h => h h12), if_neg (by rw [hby]; decide)]
  have HP := Lib.hid fun w h => put_z (a := some ⟨b, off, none⟩) hE hnc hcm hd w h
  have hokp := ok_of (putL_ok hok hby h12.1 h12.2) hcn.2
  have hlp : (putL node wait ss).length = rn := by rw [len_putL, hd]
  have PS2 := fun w a2 c2 a c h1 h2 => sameRing_any a2 a rn c2 rn c w (putL node wait ss) (putL node wait ss) hlp hlp (by unfold maxLen; omega) (by unfold maxLen; omega) hokp hokp h1 h2
  rw [sameL_yes rfl] at PS2
  have HPS2 := Lib.hid PS2
  have PRP := fun w h => refPut_any node wait ss b off rn rc w ⟨hrn1, hrn8⟩ hd h
  unfold RetP at PRP
  rw [hlp] at PRP
  have HRP := Lib.hid PRP
  have hbe : ∀ z : Bool, (z == z) = true := fun z => by cases z <;> rfl
  clear hokp hlp PS2 PRP
  have PU := fun w h => under_any ss node (some ⟨b, off, none⟩) rn rc w (by unfold maxLen; omega) hd h
  rw [hby] at PU
  have HUN := Lib.hid PU
  obtain ⟨⟨h1, h2⟩, h3, h4⟩ := h12
  have h2x : node < cn := by omega
  clear PU hby
  clear hlen hok hr h PC PRS hoks hls PS1 PE hE hd hc hb8
  go_enter Try.func6, Try.ntmps6
  obtain ⟨i4, ji, jz0, jz1, jz2⟩ := info_parts info_slot
  go_wp2_with (first
    | (go_at_call 24; refine (HN.out _).mono ?_; rintro e w1 ⟨a1, rfl, hf, hb1⟩; obtain ⟨l1, d1, rfl⟩ := later_of hb1; have HF1 := Lib.hid hf; clear hb1 hf)
    | (go_at_call 25; refine (HP.out _ (SlotsAt.below HT.out (by repeat (first | exact Below.refl _ _ | apply bs_later | apply bs_alloc | apply bs_drew | apply bs_drewN)))).mono ?_; rintro e w1 ⟨a2, c2, rfl, hf, hb1⟩; obtain ⟨l2, d2, rfl⟩ := later_of hb1; have HF2 := Lib.hid hf; clear hb1 hf)
    | (go_at_call 26; refine (HS.out _ (SlotsAt.below HT.out (by repeat (first | exact Below.refl _ _ | apply bs_later | apply bs_alloc | apply bs_drew | apply bs_drewN)))).mono ?_; rintro e w1 ⟨a3, c3, a4, c4, rfl, hf, hg, hb1⟩; obtain ⟨l3, d3, rfl⟩ := later_of hb1; have HS3 := Lib.hid hf; have HT4 := Lib.hid hg; clear hb1 hf hg)
    | (go_at_call 27; refine (HL.out _).mono ?_; rintro e w1 ⟨rfl, hb1⟩; obtain ⟨l4, d4, rfl⟩ := later_of hb1; clear hb1)
    | (go_at_call 28; refine (HC.out _).mono ?_; rintro e w1 ⟨rfl, hb1⟩; obtain ⟨l5, d5, rfl⟩ := later_of hb1; clear hb1))
  go_loopw [22, 88] (RelW cn fn (((((w.alloc (.cells #[.int .i64 cn, .int .i64 cs, .int .i64 cy, .int .i64 cb] 54)).later l1 d1).later l2 d2).later l3 d3).later l4 d4)) (fun _ i _ => fn - (intOf i).toNat)
  case atStart => exact ⟨0, _, _, by omega, rfl, rfl, World.ownsRow_nil _ _ _ _⟩
  case round =>
    obtain ⟨k, l6, d6, hk, rfl, rfl, hown⟩ := hrel
    have HO := Lib.hid (own_any hown)
    by_cases hlt : k < fn
    · have HX := Lib.hid (newL_get (cn := cn) (n := fn) (k := fn) hlt)
      rw [if_pos hlt] at HX
      clear hown
      go_wp2_with (at_builtin; refine wpList_append_own _ rfl _ _ 74 rfl _ 85 i4 _ 4 32 Try.underlying74 ji jz0 jz1 jz2 rfl (by decide) _ _ _ rfl ((HO.out _).alloc _) ⟨_, 0, none⟩ 1 1 [.int .i64 ((k : Int) % cn), .bool false, .int .i64 0, .int .i64 0] rfl rfl ?d1z3 ?d2z3 ?d3z3 ?d4z3 ?d5z3 ?_)
      try (case d1z3 => exact four_newS (by simp))
      try (case d2z3 => first | exact one_cellX _ _ _ _ | exact ⟨rfl, rfl, rfl⟩ | (simp [Value.oneCell']; done))
      try (case d3z3 => unfold maxLen; omega)
      try (case d4z3 => omega)
      try (case d5z3 => first | omega | (simp; omega))
      intro v' w1 hown2 hgrow hnil
      have hb5 := below_grown (W0 := ((((w.alloc (.cells #[.int .i64 cn, .int .i64 cs, .int .i64 cy, .int .i64 cb] 54)).later l1 d1).later l2 d2).later l3 d3).later l4 d4) (by repeat (first | exact Below.refl _ _ | apply bs_later | apply bs_alloc | apply bs_drew | apply bs_drewN)) hgrow (fun g' hg' => ((HO.out 0).lt g' hg').1)
      obtain ⟨l7, d7, rfl⟩ := later_of hb5
      have HNx := Lib.hid (own_any hown2)
      clear hown2 hgrow hnil hb5
      have hq := Lib.hid (own_le (base' := (((((w.alloc (.cells #[.int .i64 cn, .int .i64 cs, .int .i64 cy, .int .i64 cb] 54)).later l1 d1).later l2 d2).later l3 d3).later l4 d4).heap.size) (HNx.out d7) (by first | (simp; done) | (simp; omega)))
      go_wp2
      exact ⟨⟨k + 1, _, _, hlt, by go_num, rfl, by rw [List.take_add_one, HX.out]; exact (cellsS_snoc _ _).symm ▸ hq.out⟩, by simp [intOf]; omega⟩
    · obtain rfl : k = fn := by omega
      obtain ⟨sa, sc, hv⟩ := own_form hown
      subst hv
      have htk : (newL cn k k).take k = newL cn k k := List.take_of_length_le (by rw [len_newL]; exact Nat.le_refl _)
      rw [htk] at hown
      have HSL := Lib.hid (own_slots_n (len_newL cn k k) hown)
      have hokn : ∀ x ∈ newL cn k k, x.Ok := newL_ok hcn.1 hcn.2
      have PS0 := fun w h1 h2 => sameRing_any a1 sa k k k sc w (newL cn k k) (newL cn k k) (len_newL cn k k) (len_newL cn k k) (by unfold maxLen; omega) (by unfold maxLen; omega) hokn hokn h1 h2
      rw [sameL_yes rfl] at PS0
      have HPS0 := Lib.hid PS0
      clear hown hokn htk HO PS0
      go_wp2_with (first
        | (go_at_call_of 29 (Value.slice a1 k k); refine (HPS0.out _ (SlotsAt.below HF1.out (by repeat (first | exact Below.refl _ _ | apply bs_later | apply bs_alloc | apply bs_drew | apply bs_drewN))) (SlotsAt.below HSL.out (by repeat (first | exact Below.refl _ _ | apply bs_later | apply bs_alloc | apply bs_drew | apply bs_drewN)))).mono ?_; rintro e w1 ⟨rfl, hb1⟩; obtain ⟨lz, dz, rfl⟩ := later_of hb1; clear hb1)
        | (go_at_call 30; refine (HRF.out _ (SlotsAt.below HT.out (by repeat (first | exact Below.refl _ _ | apply bs_later | apply bs_alloc | apply bs_drew | apply bs_drewN)))).mono ?_; rintro e w1 ⟨rfl, hb1⟩; obtain ⟨l7, d7, rfl⟩ := later_of hb1; clear hb1)
        | (go_at_call 31; refine (HRC.out _ (SlotsAt.below HT.out (by repeat (first | exact Below.refl _ _ | apply bs_later | apply bs_alloc | apply bs_drew | apply bs_drewN)))).mono ?_; rintro e w1 ⟨rfl, hb1⟩; obtain ⟨l8, d8, rfl⟩ := later_of hb1; clear hb1)
        | (go_at_call 32; refine (HRS.out _ (SlotsAt.below HT.out (by repeat (first | exact Below.refl _ _ | apply bs_later | apply bs_alloc | apply bs_drew | apply bs_drewN)))).mono ?_; rintro e w1 ⟨hb1, a9, c9, b9, e9, rfl, q1, q2, q3, q4, q5, q6⟩; obtain ⟨l9, d9, rfl⟩ := later_of hb1; have HQ5 := Lib.hid q5; have HQ6 := Lib.hid q6; clear hb1 q1 q2 q3 q4 q5 q6)
        | (go_at_call 33; refine (HPE.out _ _ _ _ _ (ints_below HT4.out (by repeat (first | exact Below.refl _ _ | apply bs_later | apply bs_alloc | apply bs_drew | apply bs_drewN))) (ints_below HQ6.out (by repeat (first | exact Below.refl _ _ | apply bs_later | apply bs_alloc | apply bs_drew | apply bs_drewN)))).mono ?_; rintro e w1 ⟨rfl, dn, rfl⟩)
        | (go_at_call 34; refine (HUN.out _ (SlotsAt.below HT.out (by repeat (first | exact Below.refl _ _ | apply bs_later | apply bs_alloc | apply bs_drew | apply bs_drewN)))).mono ?_; rintro e w1 ⟨rfl, hb1⟩; obtain ⟨lu, du, rfl⟩ := later_of hb1; clear hb1)
        | (go_at_call 35; refine (HRP.out _ (SlotsAt.below HT.out (by repeat (first | exact Below.refl _ _ | apply bs_later | apply bs_alloc | apply bs_drew | apply bs_drewN)))).mono ?_; rintro e w1 ⟨ap, cp, rfl, q1, q2, q3, hb1⟩; obtain ⟨lp, dp, rfl⟩ := later_of hb1; have HQP := Lib.hid q3; clear hb1 q1 q2 q3)
        | (go_at_call_of 29 (Value.slice a2 rn c2); refine (HPS2.out _ _ _ _ _ (SlotsAt.below HF2.out (by repeat (first | exact Below.refl _ _ | apply bs_later | apply bs_alloc | apply bs_drew | apply bs_drewN))) (SlotsAt.below HQP.out (by repeat (first | exact Below.refl _ _ | apply bs_later | apply bs_alloc | apply bs_drew | apply bs_drewN)))).mono ?_; rintro e w1 ⟨rfl, hb1⟩; obtain ⟨lt, dt, rfl⟩ := later_of hb1; clear hb1)
        | (go_at_call_of 29 (Value.slice a3 rn c3); refine (HPS1.out _ _ _ _ _ (SlotsAt.below HS3.out (by repeat (first | exact Below.refl _ _ | apply bs_later | apply bs_alloc | apply bs_drew | apply bs_drewN))) (SlotsAt.below HQ5.out (by repeat (first | exact Below.refl _ _ | apply bs_later | apply bs_alloc | apply bs_drew | apply bs_drewN)))).mono ?_; rintro e w1 ⟨rfl, hb1⟩; obtain ⟨ls, ds, rfl⟩ := later_of hb1; clear hb1))
      go_ret
      exact ⟨rfl, (by repeat (first | exact Below.refl _ _ | apply bs_later | apply bs_alloc | apply bs_drew | apply bs_drewN))⟩
end Go.Proofs.Ytffhfpdmfegcpac.ringTells
