/- The contract of tally.Logs. -/
import Derived.Test.YtffhfpdmfegcpabTallyCheck
import Derived.Test.YtffhfpdmfegcpabProgMerge
import Derived.Deep.RegionLaw
import Derived.Deep.AppendLies
namespace Go.Proofs.Ytffhfpdmfegcpab.tally
open Go.ChangeShapes Go.WideShapes Go.ChangeAt Go.RowKit
open Go.Proofs.Ytffhfpdmfegcpab.base Go.Proofs.Ytffhfpdmfegcpab.flat Go.Proofs.Ytffhfpdmfegcpab.table Go.Proofs.Ytffhfpdmfegcpab.addr Go.Proofs.Ytffhfpdmfegcpab.atomic Go.Proofs.Ytffhfpdmfegcpab.told Go.Proofs.Ytffhfpdmfegcpab.prog Go.Proofs.Ytffhfpdmfegcpab.rows
set_option linter.unusedVariables false
set_option linter.unusedSimpArgs false

theorem info_logs : (Try.prog.info? 53).map (fun i => (i.zero, i.size, i.bytes)) = some (some (.slice none 0 0), 1, 24) := by kernel_rfl
theorem info_told : (Try.prog.info? 83).map (fun i => (i.zero, i.size, i.bytes)) = some (some (.agg #[.int .i64 0, .int .i64 0, .int .i64 0, .int .u64 0, .int .u64 0]), 5, 40) := by kernel_rfl
theorem own_drewT {w : World} {base size n : Nat} {e : TypeId} {v : Value} {xs : List Value} (h : w.ownsRow base e size v n xs) : w.drew.ownsRow base e size v n xs := h
theorem rows_drewT {w : World} {g size : Nat} {e : TypeId} {vs : List Value} {xss : List (Nat × List Value)} (h : OwnRows w g e size vs xss) : OwnRows w.drew g e size vs xss := h.map fun _ _ _ hx => hx
theorem five_new {W : World} {a b c d e : Value} {t : TypeId} {g : Nat} (hg : g = W.heap.size) : ∀ (j : Nat) (u : Value), [a, b, c, d, e][j]? = some u → (W.alloc (.cells #[a, b, c, d, e] t)).cell? ((⟨g, 0, none⟩ : Addr).add j) = some u := by
  intro j u h
  have hj : j < 5 := (List.getElem?_eq_some_iff.1 h).1
  have e : (⟨g, 0, none⟩ : Addr).add j = ⟨g, j, none⟩ := by unfold Addr.add; split <;> simp_all
  rw [e, World.cell?_alloc_at _ _ _ _ hg]
  simpa using h
set_option maxHeartbeats 4000000 in
set_option maxRecDepth 100000 in
theorem logs_ok (cn cs cy cb : Int) (ts : List E6) (a : Option Addr) (m c : Nat) (w : World) (hm : ts.length = m) (hL : EventsAt w a ts) (h0 : tallyE cn cs cy cb ts = 0) :
    Calls Try.prog 25 #[.agg #[.int .i64 cn, .int .i64 cs, .int .i64 cy, .int .i64 cb], .slice a m c] w (LogsPost cn.toNat 0 ts w) := by
  obtain ⟨hcfg, hev0⟩ := tallyE_ok h0
  obtain ⟨h200, hev⟩ := evE_ok hev0
  have PC := fun w h => tally.checked_any cn cs cy cb ts a m c w (by rw [← hm]; unfold maxLen; omega) hm h
  rw [h0] at PC
  have hcn : 2 ≤ cn ∧ cn ≤ 8 := ⟨hcfg.1, hcfg.2.1⟩
  obtain ⟨n, rfl⟩ := Int.eq_ofNat_of_zero_le (by omega : 0 ≤ cn)
  have hn2 : 2 ≤ n ∧ n ≤ 8 := by omega
  have hm2 : m ≤ 200 := by omega
  rw [Int.toNat_natCast]
  have HC := Lib.hid PC
  have HLL := Lib.hid hL
  have HML := Lib.hid hm
  have HEV := Lib.hid hev
  obtain ⟨i1, hi, hz0, hz1, hz2⟩ := info_parts info_logs
  obtain ⟨i4, ji, jz0, jz1, jz2⟩ := info_parts info_told
  clear PC hL hm hcfg hev hev0 h0 h200
  go_enter Try.func25, Try.ntmps25
  go_wp2_with (first
    | (go_at_call 66; refine (HC.out _ (EventsAt.below HLL.out (by repeat (first | exact Below.refl _ _ | apply bs_later | apply bs_alloc | apply bs_drew | apply bs_drewN)))).mono ?_; rintro e w1 ⟨rfl, hb1⟩; obtain ⟨l1, d1, rfl⟩ := later_of hb1; clear hb1)
    | (at_make; refine wpList_make_full _ rfl _ _ 48 rfl (w.heap.size + 1) 53 i1 _ 1 Try.underlying48 hi hz0 hz1 .i64 .i64 _ _ n rfl rfl rfl rfl ?m1 ?m2 ?m3 ?_))
  case m1 => rw [hz2]; omega
  case m2 => unfold maxLen; omega
  case m3 => simp
  intro w2 hown hgrow
  have hb2 := below_grown (W0 := (w.alloc (.cells #[.int .i64 (n : Int), .int .i64 cs, .int .i64 cy, .int .i64 cb] 42))) (bs_later (Below.refl _ _) _ _) hgrow (fun k hk => by cases hk)
  obtain ⟨l2, d2, rfl⟩ := later_of hb2
  rw [made_nils] at hown
  generalize w.heap.size + 1 + l1.size = g at *
  have HO := Lib.hid hown
  clear hown hgrow hb2
  go_wp2
  have hgb : w.heap.size + 1 ≤ g := by have := (HO.out.lt g rfl).1; exact this
  have HO1 : Hid (((w.alloc (.cells #[.int .i64 (n : Int), .int .i64 cs, .int .i64 cy, .int .i64 cb] 42)).later l2 d2).ownsRow (w.alloc (.cells #[.int .i64 (n : Int), .int .i64 cs, .int .i64 cy, .int .i64 cb] 42)).heap.size 53 1 (.slice (some ⟨g, 0, none⟩) n n) n (List.replicate n (.slice none 0 0))) := Lib.hid (by have h := HO.out; exact ⟨h.1, h.2.imp id fun ⟨b, c, cur, h1, h2, h3⟩ => ⟨b, c, cur, h1, by simpa using h2, h3⟩⟩)
  clear HO
  go_loopw [22] (RelT ts n g 53 83 (w.alloc (.cells #[.int .i64 (n : Int), .int .i64 cs, .int .i64 cy, .int .i64 cb] 42))) (fun i _ => m - (intOf i).toNat)
  case atStart => exact ⟨0, _, _, _, by omega, rfl, rfl, HO1.out, by rw [List.take_zero, rowsT_nil]; exact OwnRows.nils _ _ _ _ _⟩
  case round =>
    obtain ⟨j, l, d, vs, hj, rfl, rfl, hown, hrows⟩ := hrel
    by_cases hlt : j < m
    · obtain ⟨y, hy⟩ := get_some (xs := ts) (k := j) (by rw [HML.out]; exact hlt)
      obtain ⟨bq, offq, rfl⟩ := EventsAt.form HLL.out hy
      obtain ⟨e0, e1, e2, e3, e4, e5⟩ := EventsAt.at HLL.out hy
      have hin3 : inB w bq := lt_of_cell e0
      have hyv := HEV.out j y hy
      have HJ : Hid (j + 1 ≤ ts.length) := Lib.hid (by rw [HML.out]; exact hlt)
      have hgf : farB (w.alloc (.cells #[.int .i64 (n : Int), .int .i64 cs, .int .i64 cy, .int .i64 cb] 42)) l g := by have h := (hown.lt g rfl).2; simpa [farB] using h
      have HAO := Lib.hid hown
      have HRO := Lib.hid hrows
      have HTK : Hid (ts.take (j + 1) = ts.take j ++ [y]) := Lib.hid (by rw [List.take_add_one, hy]; rfl)
      clear hy hj hown hrows
      obtain ⟨⟨yn, yk, ya, yv⟩, yu, yb⟩ := y
      simp only at e0 e1 e2 e3 e4 e5 hyv
      have hpos := (right_pos hyv.1).1.1
      have hKn := hyv.2
      obtain ⟨K, rfl⟩ := Int.eq_ofNat_of_zero_le hpos
      have hK : K < n := by omega
      have hKI2 : (K : Int) < n := hKn
      have HSN := Lib.hid (rowsT_snoc n (ts.take j) (x := ⟨⟨(K : Int), yk, ya, yv⟩, yu, yb⟩) (k := K) rfl)
      obtain ⟨v, hv⟩ := get_some (xs := vs) (k := K) (by rw [HRO.out.len, rowsT_len]; exact hK)
      have HV := Lib.hid hv
      have hrk := HRO.out.own K v _ _ hv (rowsT_get hK (ts.take j))
      have HNLE : Hid ((nodeT K (ts.take j)).length ≤ 200) := Lib.hid (by have h1 := nodeT_len K (ts.take j); have h2 : (ts.take j).length ≤ j := by rw [List.length_take]; omega
                                                                          omega)
      obtain ⟨va, vc, rfl⟩ := own_form hrk
      have HRK := Lib.hid hrk
      have HNEK := Lib.hid (own_neM hrk)
      have m0 : ((w.alloc (.cells #[.int .i64 (n : Int), .int .i64 cs, .int .i64 cy, .int .i64 cb] 42)).later l d).cell? ⟨g, K, none⟩ = some (.slice va (nodeT K (ts.take j)).length vc) := by rw [HAO.out.cellAt K (by omega)]; exact hv
      have mf0 := HAO.out.frozenAt K
      generalize hnl : nodeT K (ts.take j) = NL at *
      clear hnl hv hrk hyv hpos
      -- HERE
      go_wp2_with (fail)
      go_region_law (refine step_append_lies _ rfl _ _ 53 rfl (g + 1) 83 i4 _ 5 40 Try.underlying53 ji jz0 jz1 jz2 rfl (by decide) _ _ _ rfl (own_drewT ((HRK.out.alloc _).alloc _)) ⟨_, 0, none⟩ 1 1 [.int .i64 (K : Int), .int .i64 yk, .int .i64 ya, .int .u64 yv, .int .u64 yu] rfl rfl ?c1 ?c2 (by decide) ?c3 ?c4 ?c5 _ rfl ?_; (case c1 => exact fun j u h => five_new (by simp) j u h); (case c2 => intro u hu; simp at hu; rcases hu with rfl | rfl | rfl | rfl | rfl <;> rfl); (case c3 => have := HNLE.out; unfold maxLen; omega); (case c4 => have := HNLE.out; omega); (case c5 => have h := (HAO.out.lt g rfl).2; simp at h; simp; omega); intro b5 c5 w1 hown5 hgrow hat hlt5; have hb5 := below_grown (W0 := (w.alloc (.cells #[.int .i64 (n : Int), .int .i64 cs, .int .i64 cy, .int .i64 cb] 42))) (by repeat (first | exact Below.refl _ _ | apply bs_later | apply bs_alloc | apply bs_drew | apply bs_drewN)) hgrow (fun g' hg' => by have h := (HRK.out.lt g' hg').1; simp; omega); have hown6 := (own_drewT ((HAO.out.alloc _).alloc _)).kept hgrow (.inr (fun h => HNEK.out h.symm)); have hrows6 := (rows_drewT ((HRO.out.alloc _).alloc _)).put2 HV.out hgrow hown5 hat; obtain ⟨l5, d5, rfl⟩ := later_of hb5; have m5 : ((w.alloc (.cells #[.int .i64 (n : Int), .int .i64 cs, .int .i64 cy, .int .i64 cb] 42)).later l5 d5).cell? ⟨g, K, none⟩ = some (.slice va NL.length vc) := (by rw [hown6.cellAt K (by omega)]; exact HV.out); have mf5 := hown6.frozenAt K; have mgf5 : farB (w.alloc (.cells #[.int .i64 (n : Int), .int .i64 cs, .int .i64 cy, .int .i64 cb] 42)) l5 g := (by have h := (hown6.lt g rfl).2; simpa [farB] using h); obtain ⟨l6, d6, e6, -, h6⟩ := own_storeM hown6 (Nat.le_refl _) (by simpa using hgb) K (.slice (some ⟨b5, 0, none⟩) (NL.length + 1) c5); have hr6 := hrows6.kept (hown6.stored K (.slice (some ⟨b5, 0, none⟩) (NL.length + 1) c5)).2; rw [e6] at hr6; have HA6 := Lib.hid h6; have HR6 := Lib.hid hr6; clear hown5 hgrow hat hlt5 hb5 hown6 hrows6 h6 hr6)
      all_goals go_wp2
      all_goals exact ⟨⟨j + 1, _, _, _, HJ.out, by go_num, rfl, HA6.out, by rw [HTK.out, HSN.out]; exact HR6.out⟩, by simp [intOf]; omega⟩
    · obtain rfl : j = m := by have := HML.out; omega
      have htk : ts.take j = ts := List.take_of_length_le (by rw [HML.out]; exact Nat.le_refl _)
      rw [htk] at hrows
      have HL := Lib.hid (rows_logs hown hrows)
      clear hown hrows
      go_wp2
      go_ret2
      exact ⟨(by repeat (first | exact Below.refl _ _ | apply bs_later | apply bs_alloc | apply bs_drew | apply bs_drewN)), .inl ⟨rfl, some ⟨g, 0, none⟩, n, rfl, Nat.le_refl _, by unfold maxLen; omega, (fun h => nomatch h), HL.out⟩⟩

set_option maxHeartbeats 1000000 in
set_option maxRecDepth 100000 in
theorem logs_any (cn cs cy cb : Int) (ts : List E6) (a : Option Addr) (m c : Nat) (w : World) (hm : ts.length = m) (hm2 : m ≤ maxLen) (hL : EventsAt w a ts) :
    Calls Try.prog 25 #[.agg #[.int .i64 cn, .int .i64 cs, .int .i64 cy, .int .i64 cb], .slice a m c] w (LogsPost cn.toNat (tallyE cn cs cy cb ts) ts w) := by
  by_cases h0 : tallyE cn cs cy cb ts = 0
  · rw [h0]; exact logs_ok cn cs cy cb ts a m c w hm hL h0
  · have PC := fun w h => tally.checked_any cn cs cy cb ts a m c w hm2 hm h
    have HC := Lib.hid PC
    have HT := Lib.hid hL
    have H0 := Lib.hid h0
    generalize tallyE cn cs cy cb ts = E at *
    have hE : (E != 0) = true := by simpa using h0
    clear PC hL hm h0
    go_enter Try.func25, Try.ntmps25
    go_wp2_with (go_at_call 66; refine (HC.out _ (EventsAt.below HT.out (by repeat (first | exact Below.refl _ _ | apply bs_later | apply bs_alloc | apply bs_drew | apply bs_drewN)))).mono ?_; rintro e w1 ⟨rfl, hb1⟩; obtain ⟨l1, d1, rfl⟩ := later_of hb1; clear hb1)
    go_ret2
    exact ⟨(by repeat (first | exact Below.refl _ _ | apply bs_later | apply bs_alloc | apply bs_drew | apply bs_drewN)), .inr ⟨H0.out, rfl⟩⟩
end Go.Proofs.Ytffhfpdmfegcpab.tally
