/- The contract of cache.Check. -/
import Derived.Test.YtffhfpdmfegcpacCacheOdd
import Derived.Test.YtffhfpdmfegcpacAddr
namespace Go.Proofs.Ytffhfpdmfegcpac.ways
open Go.ChangeShapes Go.WideShapes Go.ChangeAt Go.RowKit
open Go.Proofs.Ytffhfpdmfegcpac.base Go.Proofs.Ytffhfpdmfegcpac.flat Go.Proofs.Ytffhfpdmfegcpac.table Go.Proofs.Ytffhfpdmfegcpac.prog Go.Proofs.Ytffhfpdmfegcpac.same Go.Proofs.Ytffhfpdmfegcpac.addr
set_option linter.unusedVariables false
set_option linter.unusedSimpArgs false

/-- the fault of row i of a cache -/
noncomputable def rowF (cs cy : Int) (i : Nat) (r : R4) : Int := if rowE r cy = 0 then (if 0 ≤ idxP (oddS cs i) r.ways then 3 else 0) else rowE r cy
noncomputable def cacheE (cn cs cy cb : Int) (rs : List R4) : Int := if cfgE cn cs cy cb = 0 then (if (rs.length : Int) = cs then fnz (rowF cs cy) 0 rs else 3) else cfgE cn cs cy cb
theorem rowE_ways {r : R4} {n : Int} (h : rowE r n = 0) : (r.ways.length : Int) = n ∧ ∀ (i : Nat) (x : W6), r.ways[i]? = some x → wayF r.ways i x = 0 := by
  unfold rowE at h
  by_cases hE : plru.plruE r.x r.y r.z n = 0
  · rw [if_pos hE] at h
    by_cases hl : (r.ways.length : Int) = n
    · rw [if_pos hl] at h
      refine ⟨hl, fun i x hx => ?_⟩
      have := fnz_all h i x hx
      rwa [Nat.zero_add] at this
    · rw [if_neg hl] at h; cases h
  · rw [if_neg hE] at h; exact absurd h hE
theorem wayF_ok {ws : List W6} {i : Nat} {x : W6} (h : wayF ws i x = 0) : wayE x = 0 ∧ (¬ x.s = 0 → findW x.l (ws.take i) < 0) := by
  unfold wayF at h
  by_cases hE : wayE x = 0
  · rw [if_pos hE] at h
    refine ⟨hE, fun hs => ?_⟩
    rw [if_neg hs] at h
    by_cases hf : 0 ≤ findW x.l (ws.take i)
    · rw [if_pos hf] at h; cases h
    · omega
  · rw [if_neg hE] at h; cases h
theorem wayE_inv {x : W6} (h : wayE x = 0) : (0 ≤ x.s ∧ x.s ≤ 4) ∧ 0 ≤ x.l ∧ x.l ≤ 15 := by
  by_cases hc : (0 ≤ x.s ∧ x.s ≤ 4) ∧ 0 ≤ x.l ∧ x.l ≤ 15
  · exact hc
  · rw [wayE_bad hc] at h; cases h
theorem rowE_lines {r : R4} {n : Int} (h : rowE r n = 0) : ∀ x ∈ r.ways, 0 ≤ x.l ∧ x.l ≤ 15 := fun x hx => by
  obtain ⟨i, hi⟩ := List.mem_iff_getElem?.1 hx
  exact (wayE_inv (wayF_ok ((rowE_ways h).2 i x hi)).1).2

set_option maxHeartbeats 4000000 in
set_option maxRecDepth 100000 in
theorem cacheCheck_ok (cn cs cy cb : Int) (rs : List R4) (hrs : ∀ r ∈ rs, r.Ok) (a : Option Addr) (n c : Nat) (w : World) (hn : rs.length = n) (hH : CacheAt w a rs) (hcfg : CfgOK cn cs cy cb) (hl : (n : Int) = cs) :
    Calls Try.prog 76 #[.agg #[.int .i64 cn, .int .i64 cs, .int .i64 cy, .int .i64 cb], .slice a n c] w (Ret (.int .i64 (fnz (rowF cs cy) 0 rs)) w) := by
  have PC := fun w => addr.check_any cn cs cy cb w
  rw [cfgE_ok hcfg] at PC
  have HC := Lib.hid PC
  have hcs : 1 ≤ cs ∧ cs ≤ 4 := ⟨hcfg.2.2.1, hcfg.2.2.2.1⟩
  have hn4 : n ≤ 4 := by omega
  have hlb : ((n : Int) != cs) = false := by simpa using hl
  have HN := Lib.hid hn
  have HH := Lib.hid hH
  have HRS := Lib.hid hrs
  clear PC hcfg hn hH hrs hl
  go_enter Try.func76, Try.ntmps76
  go_wp2_with (go_at_call 62; refine (HC.out _).mono ?_; rintro e w1 ⟨rfl, hb1⟩; obtain ⟨l1, d1, rfl⟩ := later_of hb1; clear hb1)
  go_loopw [21] (RelL (rowF cs cy) rs (w.alloc (.cells #[.int .i64 cn, .int .i64 cs, .int .i64 cy, .int .i64 cb] 54))) (fun i _ => n - (intOf i).toNat)
  case atStart => exact ⟨0, _, _, by omega, rfl, rfl, fun i x hi => by omega⟩
  case round =>
    obtain ⟨k, l, d, hk, rfl, rfl, hall⟩ := hrel
    by_cases hlt : k < n
    · obtain ⟨r, hr⟩ := get_some (xs := rs) (k := k) (by rw [HN.out]; exact hlt)
      obtain ⟨b, off, rfl⟩ := CacheAt.form HH.out hr
      obtain ⟨p, pc, ⟨e0, e1, e2, e3⟩, q1, q2, q3, q4⟩ := CacheAt.at HH.out hr
      have hin : inB w b := lt_of_cell e0
      have HX := Lib.hid hr
      have HALL := Lib.hid hall
      have HL : Hid (k + 1 ≤ rs.length) := Lib.hid (by rw [HN.out]; exact hlt)
      have hok := HRS.out r (List.mem_of_getElem? hr)
      have PR := fun w h => rowCheck_any r hok cy p pc w q1 q2 h
      have HQ := Lib.hid q4
      clear hr hall hk q3 q4
      by_cases hE : rowE r cy = 0
      · rw [hE] at PR
        have HR := Lib.hid PR
        have HO := Lib.hid (fun g h w hw h1 h2 => containsOdd_any cs (k : Int) hcs r.ways (rowE_lines hE) p r.ways.length pc g h w rfl (Nat.le_trans q1 q2) hw h1 h2)
        by_cases hodd : 0 ≤ idxP (oddS cs (k : Int)) r.ways
        · have HV : Hid (rowF cs cy (0 + k) r = 3) := Lib.hid (by unfold rowF; rw [Nat.zero_add, if_pos hE, if_pos hodd])
          have HE := Lib.hid ((fnz_at HALL.out HX.out (by rw [HV.out]; decide)).trans HV.out)
          rw [decide_eq_true hodd] at HO
          clear HX HALL HV hE PR hodd hok
          obtain ⟨ws, x, y, z⟩ := r
          simp only at e0 e1 e2 e3 q1 HR HO HQ
          generalize ws.length = m at *
          go_wp2_with (first
            | (go_at_call 78; refine (HR.out _ (WaysAt.below HQ.out (by repeat (first | exact Below.refl _ _ | apply bs_later | apply bs_alloc | apply bs_drew | apply bs_drewN)))).mono ?_; rintro e w1 ⟨rfl, hb1⟩; obtain ⟨l1, d1, rfl⟩ := later_of hb1; clear hb1)
            | (go_at_call 90; refine (HO.out _ _ _ (WaysAt.below HQ.out (by repeat (first | exact Below.refl _ _ | apply bs_later | apply bs_alloc | apply bs_drew | apply bs_drewN))) ?o1 ?o2).mono ?_; (case o1 => go_simp); (case o2 => go_simp); rintro e w1 ⟨rfl, hb1⟩; obtain ⟨l2, d2, rfl⟩ := later_of hb1; clear hb1))
          go_ret
          exact ⟨congrArg (fun z => Ending.returned (Value.int .i64 z)) HE.out.symm, (by repeat (first | exact Below.refl _ _ | apply bs_later | apply bs_alloc | apply bs_drew | apply bs_drewN))⟩
        · have HV : Hid (rowF cs cy (0 + k) r = 0) := Lib.hid (by unfold rowF; rw [Nat.zero_add, if_pos hE, if_neg hodd])
          have HNX := Lib.hid (next_all HX.out HALL.out HV.out)
          rw [decide_eq_false hodd] at HO
          clear HX HALL HV hE PR hodd hok
          obtain ⟨ws, x, y, z⟩ := r
          simp only at e0 e1 e2 e3 q1 HR HO HQ
          generalize ws.length = m at *
          go_wp2_with (first
            | (go_at_call 78; refine (HR.out _ (WaysAt.below HQ.out (by repeat (first | exact Below.refl _ _ | apply bs_later | apply bs_alloc | apply bs_drew | apply bs_drewN)))).mono ?_; rintro e w1 ⟨rfl, hb1⟩; obtain ⟨l1, d1, rfl⟩ := later_of hb1; clear hb1)
            | (go_at_call 90; refine (HO.out _ _ _ (WaysAt.below HQ.out (by repeat (first | exact Below.refl _ _ | apply bs_later | apply bs_alloc | apply bs_drew | apply bs_drewN))) ?o3 ?o4).mono ?_; (case o3 => go_simp); (case o4 => go_simp); rintro e w1 ⟨rfl, hb1⟩; obtain ⟨l2, d2, rfl⟩ := later_of hb1; clear hb1))
          exact ⟨⟨k + 1, _, _, HL.out, by go_num, by rw [later_alloc, later_al, later_later], HNX.out⟩, by simp [intOf]; omega⟩
      · have HV : Hid (rowF cs cy (0 + k) r = rowE r cy) := Lib.hid (if_neg hE)
        have HE := Lib.hid ((fnz_at HALL.out HX.out (by rw [HV.out]; exact hE)).trans HV.out)
        have HR := Lib.hid PR
        generalize rowE r cy = R at *
        have hr1 : (R != 0) = true := by simpa using hE
        clear HX HALL HV hE PR hok
        obtain ⟨ws, x, y, z⟩ := r
        simp only at e0 e1 e2 e3 q1 HR HQ
        generalize ws.length = m at *
        go_wp2_with (go_at_call 78; refine (HR.out _ (WaysAt.below HQ.out (by repeat (first | exact Below.refl _ _ | apply bs_later | apply bs_alloc | apply bs_drew | apply bs_drewN)))).mono ?_; rintro e w1 ⟨rfl, hb1⟩; obtain ⟨l1, d1, rfl⟩ := later_of hb1; clear hb1)
        go_ret
        exact ⟨congrArg (fun z => Ending.returned (Value.int .i64 z)) HE.out.symm, (by repeat (first | exact Below.refl _ _ | apply bs_later | apply bs_alloc | apply bs_drew | apply bs_drewN))⟩
    · obtain rfl : k = n := by have := HN.out; omega
      have HE := Lib.hid (fnz_ok (f := rowF cs cy) (xs := rs) (s := 0) fun i y hy => hall i y (by rw [← HN.out]; exact (List.getElem?_eq_some_iff.1 hy).1) hy)
      clear hall
      go_wp2
      go_ret
      exact ⟨congrArg (fun z => Ending.returned (Value.int .i64 z)) HE.out.symm, (by repeat (first | exact Below.refl _ _ | apply bs_later | apply bs_alloc | apply bs_drew | apply bs_drewN))⟩
set_option maxHeartbeats 1000000 in
set_option maxRecDepth 100000 in
theorem cacheCheck_any (cn cs cy cb : Int) (rs : List R4) (hrs : ∀ r ∈ rs, r.Ok) (a : Option Addr) (n c : Nat) (w : World) (hn : rs.length = n) (hm : n ≤ maxLen) (hH : CacheAt w a rs) :
    Calls Try.prog 76 #[.agg #[.int .i64 cn, .int .i64 cs, .int .i64 cy, .int .i64 cb], .slice a n c] w (Ret (.int .i64 (cacheE cn cs cy cb rs)) w) := by
  have PC := fun w => addr.check_any cn cs cy cb w
  unfold cacheE
  by_cases hc : CfgOK cn cs cy cb
  · rw [if_pos (cfgE_ok hc), hn]
    by_cases hl : (n : Int) = cs
    · rw [if_pos hl]
      exact cacheCheck_ok cn cs cy cb rs hrs a n c w hn hH hc hl
    · rw [if_neg hl]
      rw [cfgE_ok hc] at PC
      have HC := Lib.hid PC
      have hlb : ((n : Int) != cs) = true := by simpa using hl
      unfold maxLen at hm
      clear PC hc hl hH hn hrs
      go_enter Try.func76, Try.ntmps76
      go_wp2_with (go_at_call 62; refine (HC.out _).mono ?_; rintro e w1 ⟨rfl, hb1⟩; obtain ⟨l1, d1, rfl⟩ := later_of hb1; clear hb1)
      go_ret
      exact ⟨rfl, (by repeat (first | exact Below.refl _ _ | apply bs_later | apply bs_alloc | apply bs_drew | apply bs_drewN))⟩
  · rw [if_neg (by rw [cfgE_bad hc]; decide), cfgE_bad hc]
    rw [cfgE_bad hc] at PC
    have HC := Lib.hid PC
    clear PC hc hH hn hrs
    go_enter Try.func76, Try.ntmps76
    go_wp2_with (go_at_call 62; refine (HC.out _).mono ?_; rintro e w1 ⟨rfl, hb1⟩; obtain ⟨l1, d1, rfl⟩ := later_of hb1; clear hb1)
    go_ret
    exact ⟨rfl, (by repeat (first | exact Below.refl _ _ | apply bs_later | apply bs_alloc | apply bs_drew | apply bs_drewN))⟩
end Go.Proofs.Ytffhfpdmfegcpac.ways
