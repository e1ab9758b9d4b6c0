/- The contract of ringdoveref.RingFault: it is ring.Check's. -/
import Derived.Test.YtffhfpdmfegcpacRingCheck
import Derived.Test.YtffhfpdmfegcpacRefCfg
namespace Go.Proofs.Ytffhfpdmfegcpac.slot
open Go.ChangeShapes Go.WideShapes Go.ChangeAt Go.RowKit
open Go.Proofs.Ytffhfpdmfegcpac.base Go.Proofs.Ytffhfpdmfegcpac.flat Go.Proofs.Ytffhfpdmfegcpac.table Go.Proofs.Ytffhfpdmfegcpac.addr
set_option linter.unusedVariables false
set_option linter.unusedSimpArgs false

def RelN (xs : List S4) (k : Nat) (p : S4 → Bool) (w0 : World) (i : Value) (wr : World) : Prop :=
  ∃ (j : Nat) (l : Array Obj) (d : Nat), j ≤ k ∧ i = .int .i64 j ∧ wr = w0.later l d ∧ ∀ (i : Nat) (x : S4), i < j → xs[i]? = some x → p x = false
theorem next_not {xs : List S4} {p : S4 → Bool} {k : Nat} {x : S4} (hx : xs[k]? = some x) (h : ∀ (i : Nat) (x : S4), i < k → xs[i]? = some x → p x = false) (hf : p x = false) : ∀ (i : Nat) (y : S4), i < k + 1 → xs[i]? = some y → p y = false := by
  intro i y hi hy
  by_cases hik : i < k
  · exact h i y hik hy
  · obtain rfl : i = k := by omega
    obtain rfl := Option.some.inj (hx.symm.trans hy)
    exact hf
theorem by_take_hit {xs : List S4} {node : Int} {j k : Nat} {x : S4} (hx : xs[j]? = some x) (hj : j < k) (h : x.of node = true) : byB (xs.take k) node = true :=
  byB_hit (k := j) (x := x) (by rw [List.getElem?_take, if_pos hj, hx]) h
theorem by_take_miss {xs : List S4} {node : Int} {k : Nat} (h : ∀ (i : Nat) (x : S4), i < k → xs[i]? = some x → x.of node = false) : byB (xs.take k) node = false :=
  byB_miss fun i x hx => by
    rw [List.getElem?_take] at hx
    split at hx
    · rename_i hik; exact h i x hik hx
    · cases hx

set_option maxHeartbeats 4000000 in
set_option maxRecDepth 100000 in
theorem ringFault_ok (cn cs cy cb : Int) (ss : List S4) (a : Option Addr) (n c : Nat) (w : World) (hn : 1 ≤ n ∧ n ≤ 8) (hnc : n ≤ c) (hcm : c ≤ maxLen) (hd : ss.length = n) (h : SlotsAt w a ss) (hc : CfgOK cn cs cy cb) :
    Calls Try.prog 30 #[.agg #[.int .i64 cn, .int .i64 cs, .int .i64 cy, .int .i64 cb], .slice a n c] w (Ret (.int .i64 (ringL cn [] ss)) w) := by
  have PC := fun w => refCfg.configFault_any cn cs cy cb w
  rw [cfgE_ok hc] at PC
  have HC := Lib.hid PC
  have HDL := Lib.hid hd
  have HT := Lib.hid h
  have hcn : 2 ≤ cn ∧ cn ≤ 8 := ⟨hc.1, hc.2.1⟩
  obtain ⟨hn1, hn8⟩ := hn
  have hn1' : (1 : Int) ≤ n := by omega
  have hn8' : (n : Int) ≤ 8 := by omega
  unfold maxLen at hcm
  clear PC hd h hc
  go_enter Try.func30, Try.ntmps30
  go_wp2_with (first
    | (go_at_call 28; refine (HC.out _).mono ?_; rintro e w1 ⟨rfl, hb1⟩; obtain ⟨l1, d1, rfl⟩ := later_of hb1; clear hb1))
  go_loopw [25] (RelR cn ss ((w.alloc (.cells #[.int .i64 cn, .int .i64 cs, .int .i64 cy, .int .i64 cb] 54)).later l1 d1)) (fun i _ => n - (intOf i).toNat)
  case atStart => exact ⟨0, #[], _, by omega, rfl, later_zero _, fun i x hi => by omega⟩
  case round =>
    obtain ⟨k, l, d, hk, rfl, rfl, hall⟩ := hrel
    by_cases hlt : k < n
    · obtain ⟨x, hx⟩ := get_some (xs := ss) (k := k) (by rw [HDL.out]; exact hlt)
      obtain ⟨b, off, rfl⟩ := SlotsAt.form HT.out hx
      obtain ⟨c0, c1, c2, c3⟩ := SlotsAt.at HT.out hx
      have hin : inB w b := lt_of_cell c0
      have HX := Lib.hid hx
      have HALL := Lib.hid hall
      have HJ : Hid (k + 1 ≤ ss.length) := Lib.hid (by rw [HDL.out]; exact hlt)
      have hkc : k ≤ c := by omega
      obtain ⟨xa, xf, xb, xw⟩ := x
      simp only at c0 c1 c2 c3
      clear hx hall hk
      by_cases h1 : 0 ≤ xa ∧ xa ≤ cn - 1
      case' neg =>
        have HV : Hid (slotE cn (ss.take k) ⟨xa, xf, xb, xw⟩ = 4) := Lib.hid (if_pos fun h => h1 h.1)
        have HE := Lib.hid ((ringL_at HALL.out HX.out (by rw [HV.out]; decide)).trans HV.out)
        have h1' : xa < 0 ∨ (0 ≤ xa ∧ cn ≤ xa) := by omega
        clear h1
        rcases h1' with h1 | ⟨h1, h1b⟩
        all_goals
          go_wp2
          go_ret
          exact ⟨congrArg (fun z => Ending.returned (Value.int .i64 z)) HE.out.symm, (by repeat (first | exact Below.refl _ _ | apply bs_later | apply bs_alloc | apply bs_drew | apply bs_drewN))⟩
      by_cases h2 : 0 ≤ xb ∧ xb ≤ cn - 1
      case' neg =>
        have HV : Hid (slotE cn (ss.take k) ⟨xa, xf, xb, xw⟩ = 4) := Lib.hid (if_pos fun h => h2 h.2.1)
        have HE := Lib.hid ((ringL_at HALL.out HX.out (by rw [HV.out]; decide)).trans HV.out)
        have h2' : xb < 0 ∨ (0 ≤ xb ∧ cn ≤ xb) := by omega
        obtain ⟨h1a, h1b⟩ := h1
        have h1c : xa < cn := by omega
        clear h2
        rcases h2' with h2 | ⟨h2, h2b⟩
        all_goals
          go_wp2
          go_ret
          exact ⟨congrArg (fun z => Ending.returned (Value.int .i64 z)) HE.out.symm, (by repeat (first | exact Below.refl _ _ | apply bs_later | apply bs_alloc | apply bs_drew | apply bs_drewN))⟩
      by_cases h3 : 0 ≤ xw ∧ xw ≤ 9
      case' neg =>
        have HV : Hid (slotE cn (ss.take k) ⟨xa, xf, xb, xw⟩ = 4) := Lib.hid (if_pos fun h => h3 h.2.2)
        have HE := Lib.hid ((ringL_at HALL.out HX.out (by rw [HV.out]; decide)).trans HV.out)
        have h3' : xw < 0 ∨ (0 ≤ xw ∧ 9 < xw) := by omega
        obtain ⟨h1a, h1b⟩ := h1
        obtain ⟨h2a, h2b⟩ := h2
        have h1c : xa < cn := by omega
        have h2c : xb < cn := by omega
        clear h3
        rcases h3' with h3 | ⟨h3, h3b⟩
        all_goals
          go_wp2
          go_ret
          exact ⟨congrArg (fun z => Ending.returned (Value.int .i64 z)) HE.out.symm, (by repeat (first | exact Below.refl _ _ | apply bs_later | apply bs_alloc | apply bs_drew | apply bs_drewN))⟩
      have hIn : ¬ ¬ (⟨xa, xf, xb, xw⟩ : S4).In cn := fun h => h ⟨h1, h2, h3⟩
      have HV0 : Hid (slotE cn (ss.take k) ⟨xa, xf, xb, xw⟩ = if xf = false then (if xb = 0 ∧ xw = 0 then 0 else 3) else if byB (ss.take k) xb = true then 6 else 0) := Lib.hid (if_neg hIn)
      obtain ⟨h1a, h1b⟩ := h1
      obtain ⟨h2a, h2b⟩ := h2
      obtain ⟨h3a, h3b⟩ := h3
      have h1c : xa < cn := by omega
      have h2c : xb < cn := by omega
      clear hIn
      cases xf with
      | false =>
        by_cases hb0 : xb = 0 ∧ xw = 0
        · obtain ⟨rfl, rfl⟩ := hb0
          have HV : Hid (slotE cn (ss.take k) ⟨xa, false, 0, 0⟩ = 0) := Lib.hid HV0.out
          go_wp2
          go_loopw [77] (RelN ss k (fun _ => false) (((((w.alloc (.cells #[.int .i64 cn, .int .i64 cs, .int .i64 cy, .int .i64 cb] 54)).later l1 d1).later l d).alloc (.cells #[.int .i64 xa, .bool false, .int .i64 0, .int .i64 0] 85)))) (fun i _ => k - (intOf i).toNat)
          case atStart => exact ⟨0, #[], _, by omega, rfl, later_zero _, fun i x hi => by omega⟩
          case round =>
            obtain ⟨j, l2, d2, hj, rfl, rfl, hall2⟩ := hrel
            by_cases hjk : j < k
            · obtain ⟨x2, hx2⟩ := get_some (xs := ss) (k := j) (by rw [HDL.out]; omega)
              obtain ⟨g0, g1, g2, g3⟩ := SlotsAt.at HT.out hx2
              have HALL2 := Lib.hid hall2
              clear hx2 hall2
              obtain ⟨ya, yf, yb, yw⟩ := x2
              simp only at g0 g1 g2 g3
              go_wp2
              rw [later_alloc _ l2]
              go_roundw
              case rel => exact ⟨j + 1, _, _, by omega, by go_num, rfl, fun _ _ _ _ => rfl⟩
              case measure => simp [intOf]; omega
            · obtain rfl : j = k := by omega
              clear hall2
              go_wp2
              rw [later_alloc _ l, later_later _ _ l2]
              go_roundw
              case rel => exact ⟨j + 1, _, _, HJ.out, by go_num, rfl, next_ok HX.out HALL.out HV.out⟩
              case measure => simp [intOf]; omega
        · have hs : 0 < xb + xw := by omega
          have HV : Hid (slotE cn (ss.take k) ⟨xa, false, xb, xw⟩ = 3) := Lib.hid (HV0.out.trans (by rw [if_pos rfl, if_neg hb0]))
          have HE := Lib.hid ((ringL_at HALL.out HX.out (by rw [HV.out]; decide)).trans HV.out)
          clear hb0
          go_wp2
          go_ret
          exact ⟨congrArg (fun z => Ending.returned (Value.int .i64 z)) HE.out.symm, (by repeat (first | exact Below.refl _ _ | apply bs_later | apply bs_alloc | apply bs_drew | apply bs_drewN))⟩
      | true =>
        go_wp2
        go_loopw [77] (RelN ss k (fun x => x.of xb) (((((w.alloc (.cells #[.int .i64 cn, .int .i64 cs, .int .i64 cy, .int .i64 cb] 54)).later l1 d1).later l d).alloc (.cells #[.int .i64 xa, .bool true, .int .i64 xb, .int .i64 xw] 85)))) (fun i _ => k - (intOf i).toNat)
        case atStart => exact ⟨0, #[], _, by omega, rfl, later_zero _, fun i x hi => by omega⟩
        case round =>
          obtain ⟨j, l2, d2, hj, rfl, rfl, hall2⟩ := hrel
          by_cases hjk : j < k
          · obtain ⟨x2, hx2⟩ := get_some (xs := ss) (k := j) (by rw [HDL.out]; omega)
            obtain ⟨g0, g1, g2, g3⟩ := SlotsAt.at HT.out hx2
            have HALL2 := Lib.hid hall2
            have HX2 := Lib.hid hx2
            clear hx2 hall2
            obtain ⟨ya, yf, yb, yw⟩ := x2
            simp only at g0 g1 g2 g3
            cases yf with
            | false =>
              go_wp2
              rw [later_alloc _ l2]
              go_roundw
              case rel => exact ⟨j + 1, _, _, by omega, by go_num, rfl, next_not HX2.out HALL2.out rfl⟩
              case measure => simp [intOf]; omega
            | true =>
              by_cases he : yb = xb
              · have he' : (yb == xb) = true := by simpa using he
                have HB := Lib.hid (by_take_hit (node := xb) HX2.out hjk (by show (true && decide (yb = xb)) = true; rw [decide_eq_true he]; rfl))
                have HV : Hid (slotE cn (ss.take k) ⟨xa, true, xb, xw⟩ = 6) := Lib.hid (HV0.out.trans (by rw [if_neg (by decide), if_pos HB.out]))
                have HE := Lib.hid ((ringL_at HALL.out HX.out (by rw [HV.out]; decide)).trans HV.out)
                clear he
                go_wp2
                go_ret
                exact ⟨congrArg (fun z => Ending.returned (Value.int .i64 z)) HE.out.symm, (by repeat (first | exact Below.refl _ _ | apply bs_later | apply bs_alloc | apply bs_drew | apply bs_drewN))⟩
              · have he' : (yb == xb) = false := by simpa using he
                have HF : Hid ((⟨ya, true, yb, yw⟩ : S4).of xb = false) := Lib.hid (by show (true && decide (yb = xb)) = false; rw [decide_eq_false he]; rfl)
                clear he
                go_wp2
                rw [later_alloc _ l2]
                go_roundw
                case rel => exact ⟨j + 1, _, _, by omega, by go_num, rfl, next_not HX2.out HALL2.out HF.out⟩
                case measure => simp [intOf]; omega
          · obtain rfl : j = k := by omega
            have HB := Lib.hid (by_take_miss hall2)
            have HV : Hid (slotE cn (ss.take j) ⟨xa, true, xb, xw⟩ = 0) := Lib.hid (HV0.out.trans (by rw [if_neg (by decide), if_neg (by rw [HB.out]; decide)]))
            clear hall2
            go_wp2
            rw [later_alloc _ l, later_later _ _ l2]
            go_roundw
            case rel => exact ⟨j + 1, _, _, HJ.out, by go_num, rfl, next_ok HX.out HALL.out HV.out⟩
            case measure => simp [intOf]; omega
    · obtain rfl : k = n := by have := HDL.out; omega
      have HE := Lib.hid (ringL_ok (nodes := cn) (ss := ss) fun i x hx => hall i x (by rw [← HDL.out]; exact (List.getElem?_eq_some_iff.1 hx).1) hx)
      clear hall
      go_wp2
      go_ret
      exact ⟨congrArg (fun z => Ending.returned (Value.int .i64 z)) HE.out.symm, (by repeat (first | exact Below.refl _ _ | apply bs_later | apply bs_alloc | apply bs_drew | apply bs_drewN))⟩
set_option maxHeartbeats 1000000 in
set_option maxRecDepth 100000 in
theorem ringFault_any (cn cs cy cb : Int) (ss : List S4) (a : Option Addr) (n c : Nat) (w : World) (hnc : n ≤ c) (hcm : c ≤ maxLen) (hd : ss.length = n) (h : SlotsAt w a ss) :
    Calls Try.prog 30 #[.agg #[.int .i64 cn, .int .i64 cs, .int .i64 cy, .int .i64 cb], .slice a n c] w (Ret (.int .i64 (ringE cn cs cy cb ss)) w) := by
  have PC := fun w => refCfg.configFault_any cn cs cy cb w
  unfold ringE
  by_cases hc : CfgOK cn cs cy cb
  · rw [if_pos (cfgE_ok hc)]
    by_cases hl : ss.length < 1 ∨ 8 < ss.length
    · rw [if_pos hl]
      rw [cfgE_ok hc] at PC
      have HC := Lib.hid PC
      unfold maxLen at hcm
      have hl' : n = 0 ∨ (1 ≤ n ∧ 8 < n) := by omega
      clear PC h hc hl hd
      rcases hl' with rfl | ⟨h1, h8⟩
      · go_enter Try.func30, Try.ntmps30
        go_wp2_with (go_at_call 28; refine (HC.out _).mono ?_; rintro e w1 ⟨rfl, hb1⟩; obtain ⟨l1, d1, rfl⟩ := later_of hb1; clear hb1)
        go_ret
        exact ⟨rfl, (by repeat (first | exact Below.refl _ _ | apply bs_later | apply bs_alloc | apply bs_drew | apply bs_drewN))⟩
      · have h8' : (8 : Int) < n := by omega
        have h1' : (1 : Int) ≤ n := by omega
        go_enter Try.func30, Try.ntmps30
        go_wp2_with (go_at_call 28; refine (HC.out _).mono ?_; rintro e w1 ⟨rfl, hb1⟩; obtain ⟨l1, d1, rfl⟩ := later_of hb1; clear hb1)
        go_ret
        exact ⟨rfl, (by repeat (first | exact Below.refl _ _ | apply bs_later | apply bs_alloc | apply bs_drew | apply bs_drewN))⟩
    · rw [if_neg hl]
      exact ringFault_ok cn cs cy cb ss a n c w (by omega) hnc hcm hd h hc
  · rw [if_neg (by rw [cfgE_bad hc]; decide), cfgE_bad hc]
    rw [cfgE_bad hc] at PC
    have HC := Lib.hid PC
    clear PC h hc hd
    go_enter Try.func30, Try.ntmps30
    go_wp2_with (go_at_call 28; refine (HC.out _).mono ?_; rintro e w1 ⟨rfl, hb1⟩; obtain ⟨l1, d1, rfl⟩ := later_of hb1; clear hb1)
    go_ret
    exact ⟨rfl, (by repeat (first | exact Below.refl _ _ | apply bs_later | apply bs_alloc | apply bs_drew | apply bs_drewN))⟩
end Go.Proofs.Ytffhfpdmfegcpac.slot
