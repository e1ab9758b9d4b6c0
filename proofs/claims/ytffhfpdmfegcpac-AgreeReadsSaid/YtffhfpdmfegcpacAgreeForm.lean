/- The contracts of agree.Form and agree.holders. -/
import Derived.Test.YtffhfpdmfegcpacAgreeLaw
import Derived.Deep.AppendLies
import Derived.Deep.DeepCutAuto
import Derived.Deep.CutBlock
namespace Go.Proofs.Ytffhfpdmfegcpac.agree
open Go.ChangeShapes Go.WideShapes Go.ChangeAt Go.RowKit
open Go.Proofs.Ytffhfpdmfegcpac.base Go.Proofs.Ytffhfpdmfegcpac.flat Go.Proofs.Ytffhfpdmfegcpac.table Go.Proofs.Ytffhfpdmfegcpac.prog Go.Proofs.Ytffhfpdmfegcpac.same Go.Proofs.Ytffhfpdmfegcpac.addr Go.Proofs.Ytffhfpdmfegcpac.bank Go.Proofs.Ytffhfpdmfegcpac.ways Go.Proofs.Ytffhfpdmfegcpac.state Go.Proofs.Ytffhfpdmfegcpac.turn
set_option linter.unusedVariables false
set_option linter.unusedSimpArgs false

set_option maxHeartbeats 2000000 in
set_option maxRecDepth 100000 in
theorem form_any (cn cs cy cb : Int) (xs : List Int) (hs : List (List R4)) (hok : ∀ h ∈ hs, ∀ r ∈ h, r.Ok) (ca : Option Addr) (n cc : Nat) (w : World) (hn : hs.length = n) (hm : n ≤ maxLen) (hH : CachesAt w ca hs) :
    Calls Try.prog 80 #[.agg #[.int .i64 cn, .int .i64 cs, .int .i64 cy, .int .i64 cb], .agg (worldA ca n cc xs)] w (Ret (.int .i64 (formE cn cs cy cb hs)) w) := by
  have PC := fun w => addr.check_any cn cs cy cb w
  have h0 := worldA_head ca n cc xs
  have h0' : ∀ h, (worldA ca n cc xs)[0]'h = .slice ca n cc := fun h => by have := Array.getElem?_eq_getElem h; rw [h0] at this; exact (Option.some.inj this).symm
  unfold formE
  unfold maxLen at hm
  by_cases hc : CfgOK cn cs cy cb
  · rw [if_pos (cfgE_ok hc), hn]
    rw [cfgE_ok hc] at PC
    have HC := Lib.hid PC
    clear PC
    by_cases hl : (n : Int) = cn
    · -- A begin
      rw [if_pos hl]
      have hlb : ((n : Int) != cn) = false := by simpa using hl
      have HN := Lib.hid hn
      have HH := Lib.hid hH
      have HOK := Lib.hid hok
      clear hn hH hok hc hl
      generalize hA : worldA ca n cc xs = A at *
      clear hA
      go_enter Try.func80, Try.ntmps80
      go_wp2_with (go_at_call 62; refine (HC.out _).mono ?_; rintro e w1 ⟨rfl, hb1⟩; obtain ⟨l1, d1, rfl⟩ := later_of hb1; clear hb1)
      go_loopw [23] (RelL (fun _ rs => cacheE cn cs cy cb rs) hs ((w.alloc (.cells #[.int .i64 cn, .int .i64 cs, .int .i64 cy, .int .i64 cb] 54)).alloc (.cells A 57))) (fun i _ => n - (intOf i).toNat)
      case atStart => exact ⟨0, _, _, Nat.zero_le _, rfl, rfl, fun i y hi => by omega⟩
      case round =>
        obtain ⟨k, l, d, hk, rfl, rfl, hall⟩ := hrel
        by_cases hlt : k < n
        · obtain ⟨h, hh⟩ := get_some (xs := hs) (k := k) (by rw [HN.out]; exact hlt)
          obtain ⟨b, off, rfl⟩ := ListsAt.form HH.out hh
          obtain ⟨p, pc, e0, q1, q2, q3, q4⟩ := ListsAt.at HH.out hh
          have hinb : inB w b := table.lt_of_cell e0
          have PD := fun w h' => cacheCheck_any cn cs cy cb h (HOK.out h (List.mem_of_getElem? hh)) p h.length pc w rfl (Nat.le_trans q1 q2) h'
          have HQ := Lib.hid q4
          have HX := Lib.hid hh
          have HALL := Lib.hid hall
          have HJ : Hid (k + 1 ≤ hs.length) := Lib.hid (by rw [HN.out]; exact hlt)
          have hkI : (k : Int) < n := by omega
          have HF : Hid (¬ cacheE cn cs cy cb h = 0 → fnz (fun _ rs => cacheE cn cs cy cb rs) 0 hs = cacheE cn cs cy cb h) := Lib.hid fun h0 => fnz_at (f := fun _ rs => cacheE cn cs cy cb rs) (s := 0) HALL.out HX.out h0
          obtain ⟨ce, hce⟩ : ∃ ce, ce = cacheE cn cs cy cb h := ⟨_, rfl⟩
          rw [← hce] at PD
          have HCE := Lib.hid hce
          have HD := Lib.hid PD
          clear hh hall hk q3 q4 PD hce
          by_cases hz : ce = 0
          · subst hz
            go_wp2_with (go_at_call 76; refine (HD.out _ (CacheAt.below HQ.out (by repeat (first | exact Below.refl _ _ | apply bs_later | apply bs_alloc | apply bs_drew | apply bs_drewN)))).mono ?_; rintro e w1 ⟨rfl, hb1⟩; obtain ⟨l2, d2, rfl⟩ := later_of hb1; clear hb1; rw [later_later])
            go_roundw
            case rel => exact ⟨k + 1, _, _, HJ.out, by go_num, rfl, next_all (f := fun _ rs => cacheE cn cs cy cb rs) (s := 0) HX.out HALL.out (show cacheE cn cs cy cb h = 0 from HCE.out.symm)⟩
            case measure => simp [intOf]; omega
          · have hz1 : (ce != 0) = true := by simpa using hz
            have HE := Lib.hid (HF.out (by rw [← HCE.out]; exact hz))
            clear hz HF
            go_wp2_with (go_at_call 76; refine (HD.out _ (CacheAt.below HQ.out (by repeat (first | exact Below.refl _ _ | apply bs_later | apply bs_alloc | apply bs_drew | apply bs_drewN)))).mono ?_; rintro e w1 ⟨rfl, hb1⟩; obtain ⟨l2, d2, rfl⟩ := later_of hb1; clear hb1; rw [later_later])
            go_ret
            exact ⟨congrArg (fun z => Ending.returned (Value.int .i64 z)) (HE.out.trans HCE.out.symm).symm, (by repeat (first | exact Below.refl _ _ | apply bs_later | apply bs_alloc | apply bs_drew | apply bs_drewN))⟩
        · obtain rfl : k = n := by have := HN.out; omega
          have HE := Lib.hid (fnz_ok (f := fun _ rs => cacheE cn cs cy cb rs) (xs := hs) (s := 0) fun i y hy => hall i y (by rw [← HN.out]; exact (List.getElem?_eq_some_iff.1 hy).1) hy)
          clear hall
          go_wp2
          go_ret
          exact ⟨congrArg (fun z => Ending.returned (Value.int .i64 z)) HE.out.symm, (by repeat (first | exact Below.refl _ _ | apply bs_later | apply bs_alloc | apply bs_drew | apply bs_drewN))⟩
      -- A end
    · -- B begin
      rw [if_neg hl]
      have hlb : ((n : Int) != cn) = true := by simpa using hl
      clear hn hH hok hc hl
      generalize worldA ca n cc xs = A at *
      go_enter Try.func80, Try.ntmps80
      go_wp2_with (go_at_call 62; refine (HC.out _).mono ?_; rintro e w1 ⟨rfl, hb1⟩; obtain ⟨l1, d1, rfl⟩ := later_of hb1; clear hb1)
      go_ret
      exact ⟨rfl, (by repeat (first | exact Below.refl _ _ | apply bs_later | apply bs_alloc | apply bs_drew | apply bs_drewN))⟩
      -- B end
  · -- C begin
    rw [if_neg (by rw [cfgE_bad hc]; decide), cfgE_bad hc]
    rw [cfgE_bad hc] at PC
    have HC := Lib.hid PC
    clear PC hc hH hn hok
    generalize worldA ca n cc xs = A at *
    go_enter Try.func80, Try.ntmps80
    go_wp2_with (go_at_call 62; refine (HC.out _).mono ?_; rintro e w1 ⟨rfl, hb1⟩; obtain ⟨l1, d1, rfl⟩ := later_of hb1; clear hb1)
    go_ret
    exact ⟨rfl, (by repeat (first | exact Below.refl _ _ | apply bs_later | apply bs_alloc | apply bs_drew | apply bs_drewN))⟩
    -- C end
end Go.Proofs.Ytffhfpdmfegcpac.agree
