/- The contracts of cache.set and cache.Find at right caches. -/
import Derived.Test.YtffhfpdmfegcpacCacheCheck
import Derived.Test.YtffhfpdmfegcpacAddrSet
import Derived.Deep.RegionWith
namespace Go.Proofs.Ytffhfpdmfegcpac.ways
open Go.ChangeShapes Go.WideShapes Go.ChangeAt Go.RowKit
open Go.Proofs.Ytffhfpdmfegcpac.base Go.Proofs.Ytffhfpdmfegcpac.flat Go.Proofs.Ytffhfpdmfegcpac.table Go.Proofs.Ytffhfpdmfegcpac.prog Go.Proofs.Ytffhfpdmfegcpac.same Go.Proofs.Ytffhfpdmfegcpac.addr
set_option linter.unusedVariables false
set_option linter.unusedSimpArgs false

theorem cacheE_ok {cn cs cy cb : Int} {rs : List R4} (h : cacheE cn cs cy cb rs = 0) : CfgOK cn cs cy cb ∧ (rs.length : Int) = cs ∧ ∀ (i : Nat) (r : R4), rs[i]? = some r → rowF cs cy i r = 0 := by
  unfold cacheE at h
  by_cases hc : CfgOK cn cs cy cb
  · rw [if_pos (cfgE_ok hc)] at h
    by_cases hl : (rs.length : Int) = cs
    · rw [if_pos hl] at h
      refine ⟨hc, hl, fun i r hr => ?_⟩
      have := fnz_all h i r hr
      rwa [Nat.zero_add] at this
    · rw [if_neg hl] at h; cases h
  · rw [cfgE_bad hc] at h; simp at h
theorem rowF_ok {cs cy : Int} {i : Nat} {r : R4} (h : rowF cs cy i r = 0) : rowE r cy = 0 ∧ ∀ x ∈ r.ways, ¬ x.s = 0 → x.l % cs = i := by
  unfold rowF at h
  by_cases hE : rowE r cy = 0
  · rw [if_pos hE] at h
    refine ⟨hE, fun x hx hs => ?_⟩
    by_cases ho : 0 ≤ idxP (oddS cs i) r.ways
    · rw [if_pos ho] at h; cases h
    · have := idxP_neg.1 (by omega : idxP (oddS cs i) r.ways < 0) x hx
      unfold oddS at this
      have h2 := of_decide_eq_false this
      exact Decidable.byContradiction fun hn => h2 ⟨hs, hn⟩
  · rw [if_neg hE] at h; exact absurd h hE
set_option maxHeartbeats 1000000 in
set_option maxRecDepth 100000 in
theorem cacheSet_ok (cn cs cy cb : Int) (rs : List R4) (hrs : ∀ r ∈ rs, r.Ok) (L : Int) (a : Option Addr) (n c : Nat) (w : World) (hn : rs.length = n) (hm : n ≤ maxLen) (hH : CacheAt w a rs) (h0 : cacheE cn cs cy cb rs = 0) (hL : 0 ≤ L ∧ L ≤ 15) :
    Calls Try.prog 55 #[.agg #[.int .i64 cn, .int .i64 cs, .int .i64 cy, .int .i64 cb], .slice a n c, .int .i64 L] w (Ret (.tuple #[.int .i64 (L % cs), .int .i64 0]) w) := by
  have PC := fun w h => cacheCheck_any cn cs cy cb rs hrs a n c w hn hm h
  rw [h0] at PC
  have hc := (cacheE_ok h0).1
  have PS := fun w => set_any cn cs cy cb L w
  rw [show setV cn cs cy cb L = L % cs from if_pos ⟨hc, hL⟩, show partE cn cs cy cb L = 0 from if_pos ⟨hc, hL⟩] at PS
  have HC := Lib.hid PC
  have HS := Lib.hid PS
  have HH := Lib.hid hH
  generalize L % cs = K at *
  clear PC PS hH h0 hL hc hn hrs
  go_enter Try.func55, Try.ntmps55
  go_wp2_with (first
    | (go_at_call 76; refine (HC.out _ (CacheAt.below HH.out (by repeat (first | exact Below.refl _ _ | apply bs_later | apply bs_alloc | apply bs_drew | apply bs_drewN)))).mono ?_; rintro e w1 ⟨rfl, hb1⟩; obtain ⟨l1, d1, rfl⟩ := later_of hb1; clear hb1)
    | (go_at_call 77; refine (HS.out _).mono ?_; rintro e w1 ⟨rfl, hb1⟩; obtain ⟨l2, d2, rfl⟩ := later_of hb1; clear hb1))
  go_ret2
  exact ⟨rfl, (by repeat (first | exact Below.refl _ _ | apply bs_later | apply bs_alloc | apply bs_drew | apply bs_drewN))⟩
set_option maxHeartbeats 2000000 in
set_option maxRecDepth 100000 in
theorem cacheFind_no (cn cs cy cb : Int) (rs : List R4) (hrs : ∀ r ∈ rs, r.Ok) (L : Int) (a : Option Addr) (n c : Nat) (w : World) (hn : rs.length = n) (hm : n ≤ maxLen) (hH : CacheAt w a rs) (h0 : cacheE cn cs cy cb rs = 0) (hL : 0 ≤ L ∧ L ≤ 15) (i : Nat) (r : R4) (hi : L % cs = i) (hr : rs[i]? = some r) (hf : findW L r.ways < 0) :
    Calls Try.prog 20 #[.agg #[.int .i64 cn, .int .i64 cs, .int .i64 cy, .int .i64 cb], .slice a n c, .int .i64 L] w (Ret (.tuple #[.agg #[.int .i64 0, .int .i64 0, .int .u64 0, .int .u64 0, .int .u64 0, .int .u64 0], .bool false, .int .i64 0]) w) := by
  have PS := fun w h => cacheSet_ok cn cs cy cb rs hrs L a n c w hn hm h h0 hL
  rw [hi] at PS
  have HS := Lib.hid PS
  have hE := (rowF_ok ((cacheE_ok h0).2.2 i r hr)).1
  have hok := hrs r (List.mem_of_getElem? hr)
  have HH := Lib.hid hH
  have hin0 : i < n := by rw [← hn]; exact (List.getElem?_eq_some_iff.1 hr).1
  have hinI : (i : Int) < n := by omega
  obtain ⟨b, off, rfl⟩ := CacheAt.form hH hr
  obtain ⟨p, pc, ⟨e0, e1, e2, e3⟩, q1, q2, q3, q4⟩ := CacheAt.at hH hr
  have hin : inB w b := lt_of_cell e0
  have HF := Lib.hid (fun w h => rowFind_ok r hok cy L p pc w q1 q2 h hE)
  have HQ := Lib.hid q4
  obtain ⟨ws, x, y, z⟩ := r
  simp only at e0 e1 e2 e3 q1 HF HQ hf
  generalize findW L ws = F at *
  generalize hws : ws.length = m at *
  unfold maxLen at hm q2
  clear PS hH h0 hL hi hr hn hrs hE hok q3 q4 hws
  go_enter Try.func20, Try.ntmps20
  go_wp2_with (go_at_call 55; refine (HS.out _ (CacheAt.below HH.out (by repeat (first | exact Below.refl _ _ | apply bs_later | apply bs_alloc | apply bs_drew | apply bs_drewN)))).mono ?_; rintro e w1 ⟨rfl, hb1⟩; obtain ⟨l1, d1, rfl⟩ := later_of hb1; clear hb1)
  go_region_with (go_at_call 56; refine (HF.out _ (WaysAt.below HQ.out (by repeat (first | exact Below.refl _ _ | apply bs_later | apply bs_alloc | apply bs_drew | apply bs_drewN)))).mono ?_; rintro e w1 ⟨rfl, hb1⟩; obtain ⟨l2, d2, rfl⟩ := later_of hb1; clear hb1)
  all_goals go_wp2
  all_goals go_returns
  all_goals exact ⟨rfl, (by repeat (first | exact Below.refl _ _ | apply bs_later | apply bs_alloc | apply bs_drew | apply bs_drewN))⟩
set_option maxHeartbeats 2000000 in
set_option maxRecDepth 100000 in
theorem cacheFind_yes (cn cs cy cb : Int) (rs : List R4) (hrs : ∀ r ∈ rs, r.Ok) (L : Int) (a : Option Addr) (n c : Nat) (w : World) (hn : rs.length = n) (hm : n ≤ maxLen) (hH : CacheAt w a rs) (h0 : cacheE cn cs cy cb rs = 0) (hL : 0 ≤ L ∧ L ≤ 15) (i : Nat) (r : R4) (hi : L % cs = i) (hr : rs[i]? = some r) (k : Nat) (x : W6) (hf : findW L r.ways = k) (hx : r.ways[k]? = some x) :
    Calls Try.prog 20 #[.agg #[.int .i64 cn, .int .i64 cs, .int .i64 cy, .int .i64 cb], .slice a n c, .int .i64 L] w (Ret (.tuple #[.agg #[.int .i64 x.s, .int .i64 x.l, .int .u64 x.a, .int .u64 x.b, .int .u64 x.c, .int .u64 x.d], .bool true, .int .i64 0]) w) := by
  have PS := fun w h => cacheSet_ok cn cs cy cb rs hrs L a n c w hn hm h h0 hL
  rw [hi] at PS
  have HS := Lib.hid PS
  have hE := (rowF_ok ((cacheE_ok h0).2.2 i r hr)).1
  have hok := hrs r (List.mem_of_getElem? hr)
  have HH := Lib.hid hH
  have hin0 : i < n := by rw [← hn]; exact (List.getElem?_eq_some_iff.1 hr).1
  have hinI : (i : Int) < n := by omega
  obtain ⟨b, off, rfl⟩ := CacheAt.form hH hr
  obtain ⟨p, pc, ⟨e0, e1, e2, e3⟩, q1, q2, q3, q4⟩ := CacheAt.at hH hr
  have hin : inB w b := lt_of_cell e0
  have hkw : k < r.ways.length := (List.getElem?_eq_some_iff.1 hx).1
  have hkI : (k : Int) < r.ways.length := by omega
  obtain ⟨b2, off2, rfl⟩ := WaysAt.form q4 hx
  obtain ⟨f0, f1, f2, f3, f4, f5⟩ := WaysAt.at q4 hx
  have hin2 : inB w b2 := lt_of_cell f0
  have PF := fun w h => rowFind_ok r hok cy L (some ⟨b2, off2, none⟩) pc w q1 q2 h hE
  rw [hf] at PF
  have HF := Lib.hid PF
  have HQ := Lib.hid q4
  obtain ⟨ws, tx, ty, tz⟩ := r
  obtain ⟨xs, xl, xa, xb, xc, xd⟩ := x
  simp only at e0 e1 e2 e3 q1 HF HQ hkw hkI f0 f1 f2 f3 f4 f5 ⊢
  generalize hws : ws.length = m at *
  unfold maxLen at hm q2
  clear PS PF hH h0 hL hi hr hn hrs hE hok q3 q4 hf hx hws
  go_enter Try.func20, Try.ntmps20
  go_wp2_with (go_at_call 55; refine (HS.out _ (CacheAt.below HH.out (by repeat (first | exact Below.refl _ _ | apply bs_later | apply bs_alloc | apply bs_drew | apply bs_drewN)))).mono ?_; rintro e w1 ⟨rfl, hb1⟩; obtain ⟨l1, d1, rfl⟩ := later_of hb1; clear hb1)
  go_region_with (go_at_call 56; refine (HF.out _ (WaysAt.below HQ.out (by repeat (first | exact Below.refl _ _ | apply bs_later | apply bs_alloc | apply bs_drew | apply bs_drewN)))).mono ?_; rintro e w1 ⟨rfl, hb1⟩; obtain ⟨l2, d2, rfl⟩ := later_of hb1; clear hb1)
  all_goals go_wp2
  all_goals go_returns
  all_goals exact ⟨rfl, (by repeat (first | exact Below.refl _ _ | apply bs_later | apply bs_alloc | apply bs_drew | apply bs_drewN))⟩
end Go.Proofs.Ytffhfpdmfegcpac.ways
