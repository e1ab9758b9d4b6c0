/- The contract of prog.Split. -/
import Derived.Test.YtffhfpdmfegcpabSplitLaw
import Derived.Test.YtffhfpdmfegcpabProgMerge
import Derived.Test.YtffhfpdmfegcpabAtomicDo
import Derived.Deep.RegionLaw
import Derived.Deep.AppendLies
namespace Go.Proofs.Ytffhfpdmfegcpab.prog
open Go.ChangeShapes Go.WideShapes Go.ChangeAt Go.RowKit
open Go.Proofs.Ytffhfpdmfegcpab.base Go.Proofs.Ytffhfpdmfegcpab.flat Go.Proofs.Ytffhfpdmfegcpab.table Go.Proofs.Ytffhfpdmfegcpab.addr Go.Proofs.Ytffhfpdmfegcpab.atomic Go.Proofs.Ytffhfpdmfegcpab.told Go.Proofs.Ytffhfpdmfegcpab.rows
set_option linter.unusedVariables false
set_option linter.unusedSimpArgs false

theorem info_deeds : (Try.prog.info? 60).map (fun i => (i.zero, i.size, i.bytes)) = some (some (.slice none 0 0), 1, 24) := by kernel_rfl
set_option maxHeartbeats 4000000 in
set_option maxRecDepth 100000 in
theorem split_ok (cn cs cy cb : Int) (ls : List D4) (a : Option Addr) (m c : Nat) (w : World) (hm : ls.length = m) (hm2 : m ≤ 200) (hL : DeedsAt w a ls) (hcfg : CfgOK cn cs cy cb) :
    Calls Try.prog 34 #[.agg #[.int .i64 cn, .int .i64 cs, .int .i64 cy, .int .i64 cb], .slice a m c] w (SplitPost cn.toNat (fnz (splitP cn) 0 ls) ls w) := by
  have PC := fun w => check_any cn cs cy cb w
  rw [cfgE_ok hcfg] at PC
  have HC := Lib.hid PC
  have hcn : 2 ≤ cn ∧ cn ≤ 8 := ⟨hcfg.1, hcfg.2.1⟩
  obtain ⟨n, rfl⟩ := Int.eq_ofNat_of_zero_le (by omega : 0 ≤ cn)
  have hn2 : 2 ≤ n ∧ n ≤ 8 := by omega
  have hmI : ¬ (200 : Int) < m := by omega
  rw [Int.toNat_natCast]
  have HLL := Lib.hid hL
  have HML := Lib.hid hm
  obtain ⟨i1, hi, hz0, hz1, hz2⟩ := info_parts info_deeds
  obtain ⟨i4, ji, jz0, jz1, jz2⟩ := info_parts info_deed
  clear PC hL hm hcfg
  go_enter Try.func34, Try.ntmps34
  go_wp2_with (first
    | (go_at_call 69; refine (HC.out _).mono ?_; rintro e w1 ⟨rfl, hb1⟩; obtain ⟨l1, d1, rfl⟩ := later_of hb1; clear hb1)
    | (at_make; refine wpList_make_full _ rfl _ _ 71 rfl (w.heap.size + 1) 60 i1 _ 1 Try.underlying71 hi hz0 hz1 .i64 .i64 _ _ n rfl rfl rfl rfl ?m1 ?m2 ?m3 ?_))
  case m1 => rw [hz2]; omega
  case m2 => unfold maxLen; omega
  case m3 => simp
  intro w2 hown hgrow
  have hb2 := below_grown (W0 := (w.alloc (.cells #[.int .i64 (n : Int), .int .i64 cs, .int .i64 cy, .int .i64 cb] 42))) (bs_later (Below.refl _ _) _ _) hgrow (fun k hk => by cases hk)
  obtain ⟨l2, d2, rfl⟩ := later_of hb2
  rw [made_nils] at hown
  generalize w.heap.size + 1 + l1.size = g at *
  have HO := Lib.hid hown
  clear hown hgrow hb2
  go_wp2
  have hgb : w.heap.size + 1 ≤ g := by have := (HO.out.lt g rfl).1; exact this
  have HO1 : Hid (((w.alloc (.cells #[.int .i64 (n : Int), .int .i64 cs, .int .i64 cy, .int .i64 cb] 42)).later l2 d2).ownsRow (w.alloc (.cells #[.int .i64 (n : Int), .int .i64 cs, .int .i64 cy, .int .i64 cb] 42)).heap.size 60 1 (.slice (some ⟨g, 0, none⟩) n n) n (List.replicate n (.slice none 0 0))) := Lib.hid (by have h := HO.out; exact ⟨h.1, h.2.imp id fun ⟨b, c, cur, h1, h2, h3⟩ => ⟨b, c, cur, h1, by simpa using h2, h3⟩⟩)
  clear HO
  go_loopw [24] (RelS n ls n g 60 56 (w.alloc (.cells #[.int .i64 (n : Int), .int .i64 cs, .int .i64 cy, .int .i64 cb] 42))) (fun i _ => m - (intOf i).toNat)
  case atStart => exact ⟨0, _, _, _, by omega, rfl, rfl, HO1.out, by rw [List.take_zero, rowsS_nil]; exact OwnRows.nils _ _ _ _ _, fun i y hi => by omega⟩
  case round =>
    obtain ⟨j, l, d, vs, hj, rfl, rfl, hown, hrows, hall⟩ := hrel
    by_cases hlt : j < m
    · obtain ⟨y, hy⟩ := get_some (xs := ls) (k := j) (by rw [HML.out]; exact hlt)
      obtain ⟨bq, offq, rfl⟩ := RowsAt.form HLL.out (i := j) (r := y.cells) (by simp [hy])
      obtain ⟨e0, e1, e2, e3⟩ := DeedsAt.at HLL.out hy
      have hin3 : inB w bq := lt_of_cell e0
      have HALL := Lib.hid hall
      have HY := Lib.hid hy
      have HJ : Hid (j + 1 ≤ ls.length) := Lib.hid (by rw [HML.out]; exact hlt)
      have hgf : farB (w.alloc (.cells #[.int .i64 (n : Int), .int .i64 cs, .int .i64 cy, .int .i64 cb] 42)) l g := by have h := (hown.lt g rfl).2; simpa [farB] using h
      have HAO := Lib.hid hown
      have HRO := Lib.hid hrows
      have HTK : Hid (ls.take (j + 1) = ls.take j ++ [y]) := Lib.hid (by rw [List.take_add_one, hy]; rfl)
      clear hall hy hj hown hrows
      obtain ⟨yn, yk, ya, yv⟩ := y
      simp only at e0 e1 e2 e3
      have PR := fun w => right_any yn yk ya yv w
      by_cases hr : rightE yn yk ya yv = 0
      · rw [hr] at PR
        have HR := Lib.hid PR
        have hpos := (right_pos hr).1.1
        obtain ⟨K, rfl⟩ := Int.eq_ofNat_of_zero_le hpos
        by_cases hK : K < n
        · have HF : Hid (splitP n (0 + j) ⟨(K : Int), yk, ya, yv⟩ = 0) := Lib.hid (by unfold splitP; rw [if_pos hr, if_neg (by show ¬ (n : Int) ≤ (K : Int); omega)])
          have hKI : ¬ (n : Int) ≤ (K : Int) := by omega
          have hKI2 : (K : Int) < n := by omega
          have HSN := Lib.hid (rowsS_snoc n (ls.take j) (x := ⟨(K : Int), yk, ya, yv⟩) (k := K) rfl)
          obtain ⟨v, hv⟩ := get_some (xs := vs) (k := K) (by rw [HRO.out.len, rowsS_len]; exact hK)
          have HV := Lib.hid hv
          have hrk := HRO.out.own K v _ _ hv (rowsS_get hK (ls.take j))
          have HNLE : Hid ((nodeL K (ls.take j)).length ≤ 200) := Lib.hid (by have h1 := nodeL_len K (ls.take j); have h2 : (ls.take j).length ≤ j := by rw [List.length_take]; omega
                                                                              omega)
          obtain ⟨va, vc, rfl⟩ := own_form hrk
          have HRK := Lib.hid hrk
          have HNEK := Lib.hid (own_neM hrk)
          have m0 : ((w.alloc (.cells #[.int .i64 (n : Int), .int .i64 cs, .int .i64 cy, .int .i64 cb] 42)).later l d).cell? ⟨g, K, none⟩ = some (.slice va (nodeL K (ls.take j)).length vc) := by rw [HAO.out.cellAt K (by omega)]; exact hv
          have mf0 := HAO.out.frozenAt K
          generalize hnl : nodeL K (ls.take j) = NL at *
          clear hnl hv hrk PR hr
          go_wp2_with (go_at_call 29; refine (HR.out _).mono ?_; rintro e w1 ⟨rfl, hb1⟩; obtain ⟨l3, d3, rfl⟩ := later_of hb1; clear hb1)
          go_region_law (refine step_append_lies _ rfl _ _ 60 rfl (g + 1) 56 i4 _ 4 32 Try.underlying60 ji jz0 jz1 jz2 rfl (by decide) _ _ _ rfl ((own_later (HRK.out.alloc _)).alloc _) ⟨_, 0, none⟩ 1 1 [.int .i64 (K : Int), .int .i64 yk, .int .i64 ya, .int .u64 yv] rfl rfl ?c1 ?c2 (by decide) ?c3 ?c4 ?c5 _ rfl ?_; (case c1 => exact four_new (by simp)); (case c2 => intro u hu; simp at hu; rcases hu with rfl | rfl | rfl | rfl <;> rfl); (case c3 => have := HNLE.out; unfold maxLen; omega); (case c4 => have := HNLE.out; omega); (case c5 => have h := (HAO.out.lt g rfl).2; simp at h; simp; omega); intro b5 c5 w1 hown5 hgrow hat hlt5; have hb5 := below_grown (W0 := (w.alloc (.cells #[.int .i64 (n : Int), .int .i64 cs, .int .i64 cy, .int .i64 cb] 42))) (by repeat (first | exact Below.refl _ _ | apply bs_later | apply bs_alloc | apply bs_drew | apply bs_drewN)) hgrow (fun g' hg' => by have h := (HRK.out.lt g' hg').1; simp; omega); have hown6 := ((own_later (HAO.out.alloc _)).alloc _).kept hgrow (.inr (fun h => HNEK.out h.symm)); have hrows6 := (((HRO.out.alloc _).later _ _).alloc _).put2 HV.out hgrow hown5 hat; have m7 := (hgrow.cell_far (⟨w.heap.size + 1 + l.size, 0, none⟩ : Addr) (by simp; omega) (fun h => by have h2 := (HRK.out.lt _ h.symm).2; simp at h2)).trans (show _ = some (Value.int .i64 (K : Int)) from (by rw [cell_alloc_in _ _ (by simp [inB]; omega), cell_later_in _ _ _ (by simp [inB]), World.cell?_alloc_at _ _ _ _ (by simp)]; rfl)); obtain ⟨l5, d5, rfl⟩ := later_of hb5; have m5 : ((w.alloc (.cells #[.int .i64 (n : Int), .int .i64 cs, .int .i64 cy, .int .i64 cb] 42)).later l5 d5).cell? ⟨g, K, none⟩ = some (.slice va NL.length vc) := (by rw [hown6.cellAt K (by omega)]; exact HV.out); have mf5 := hown6.frozenAt K; have mgf5 : farB (w.alloc (.cells #[.int .i64 (n : Int), .int .i64 cs, .int .i64 cy, .int .i64 cb] 42)) l5 g := (by have h := (hown6.lt g rfl).2; simpa [farB] using h); obtain ⟨l6, d6, e6, -, h6⟩ := own_storeM hown6 (Nat.le_refl _) (by simpa using hgb) K (.slice (some ⟨b5, 0, none⟩) (NL.length + 1) c5); have hr6 := hrows6.kept (hown6.stored K (.slice (some ⟨b5, 0, none⟩) (NL.length + 1) c5)).2; rw [e6] at hr6; have HA6 := Lib.hid h6; have HR6 := Lib.hid hr6; clear hown5 hgrow hat hlt5 hb5 hown6 hrows6 h6 hr6)
          all_goals go_wp2
          all_goals exact ⟨⟨j + 1, _, _, _, HJ.out, by go_num, rfl, HA6.out, by rw [HTK.out, HSN.out]; exact HR6.out, next_all HY.out HALL.out HF.out⟩, by simp [intOf]; omega⟩
        · have HF : Hid (splitP n (0 + j) ⟨(K : Int), yk, ya, yv⟩ = 4) := Lib.hid (by unfold splitP; rw [if_pos hr, if_pos (by show (n : Int) ≤ (K : Int); omega)])
          have HE := Lib.hid ((fnz_at HALL.out HY.out (by rw [HF.out]; decide)).trans HF.out)
          have hKI : (n : Int) ≤ (K : Int) := by omega
          clear PR hr
          go_wp2_with (go_at_call 29; refine (HR.out _).mono ?_; rintro e w1 ⟨rfl, hb1⟩; obtain ⟨l3, d3, rfl⟩ := later_of hb1; clear hb1)
          go_ret2
          exact ⟨(by repeat (first | exact Below.refl _ _ | apply bs_later | apply bs_alloc | apply bs_drew | apply bs_drewN)), .inr ⟨by rw [HE.out]; decide, by rw [HE.out]; rfl⟩⟩
      · have HF : Hid (splitP n (0 + j) ⟨yn, yk, ya, yv⟩ = rightE yn yk ya yv) := Lib.hid (if_neg hr)
        have HE := Lib.hid ((fnz_at HALL.out HY.out (by rw [HF.out]; exact hr)).trans HF.out)
        have HR := Lib.hid PR
        have HNR := Lib.hid hr
        generalize rightE yn yk ya yv = E at *
        have hE1 : (E != 0) = true := by simpa using HNR.out
        clear PR hr
        go_wp2_with (go_at_call 29; refine (HR.out _).mono ?_; rintro e w1 ⟨rfl, hb1⟩; obtain ⟨l3, d3, rfl⟩ := later_of hb1; clear hb1)
        go_ret2
        exact ⟨(by repeat (first | exact Below.refl _ _ | apply bs_later | apply bs_alloc | apply bs_drew | apply bs_drewN)), .inr ⟨by rw [HE.out]; exact HNR.out, by rw [HE.out]; rfl⟩⟩
    · obtain rfl : j = m := by have := HML.out; omega
      have htk : ls.take j = ls := List.take_of_length_le (by rw [HML.out]; exact Nat.le_refl _)
      rw [htk] at hrows
      have HE := Lib.hid (fnz_ok (f := splitP n) (xs := ls) (s := 0) fun i y hy => hall i y (by rw [← HML.out]; exact (List.getElem?_eq_some_iff.1 hy).1) hy)
      have HL := Lib.hid (rows_lists hown hrows)
      clear hall hown hrows
      go_wp2
      go_ret2
      exact ⟨(by repeat (first | exact Below.refl _ _ | apply bs_later | apply bs_alloc | apply bs_drew | apply bs_drewN)), .inl ⟨HE.out, some ⟨g, 0, none⟩, n, rfl, Nat.le_refl _, by unfold maxLen; omega, (fun h => nomatch h), HL.out⟩⟩

set_option maxHeartbeats 1000000 in
set_option maxRecDepth 100000 in
theorem split_any (cn cs cy cb : Int) (ls : List D4) (a : Option Addr) (m c : Nat) (w : World) (hm : ls.length = m) (hm2 : m ≤ maxLen) (hL : DeedsAt w a ls) :
    Calls Try.prog 34 #[.agg #[.int .i64 cn, .int .i64 cs, .int .i64 cy, .int .i64 cb], .slice a m c] w (SplitPost cn.toNat (splitE cn cs cy cb ls) ls w) := by
  have PC := fun w => check_any cn cs cy cb w
  unfold splitE
  by_cases hc : CfgOK cn cs cy cb
  · rw [if_pos (cfgE_ok hc), hm]
    by_cases h2 : 200 < m
    · rw [if_pos h2]
      rw [cfgE_ok hc] at PC
      have HC := Lib.hid PC
      have h2' : (200 : Int) < m := by omega
      unfold maxLen at hm2
      clear PC hc hL hm
      go_enter Try.func34, Try.ntmps34
      go_wp2_with (go_at_call 69; refine (HC.out _).mono ?_; rintro e w1 ⟨rfl, hb1⟩; obtain ⟨l1, d1, rfl⟩ := later_of hb1; clear hb1)
      go_ret2
      exact ⟨(by repeat (first | exact Below.refl _ _ | apply bs_later | apply bs_alloc | apply bs_drew | apply bs_drewN)), .inr ⟨by decide, rfl⟩⟩
    · rw [if_neg h2]
      exact split_ok cn cs cy cb ls a m c w hm (by omega) hL hc
  · have hb := cfgE_bad hc
    rw [if_neg (by rw [hb]; decide), hb]
    rw [hb] at PC
    have HC := Lib.hid PC
    clear PC hc hL hm hb
    go_enter Try.func34, Try.ntmps34
    go_wp2_with (go_at_call 69; refine (HC.out _).mono ?_; rintro e w1 ⟨rfl, hb1⟩; obtain ⟨l1, d1, rfl⟩ := later_of hb1; clear hb1)
    go_ret2
    exact ⟨(by repeat (first | exact Below.refl _ _ | apply bs_later | apply bs_alloc | apply bs_drew | apply bs_drewN)), .inr ⟨by decide, rfl⟩⟩
end Go.Proofs.Ytffhfpdmfegcpab.prog
