/- The contract of ring.Check. -/
import Derived.Test.YtffhfpdmfegcpaaSlot
import Derived.Test.YtffhfpdmfegcpaaAddr
import Derived.Deep.RegionWith
namespace Go.Proofs.Ytffhfpdmfegcpaa.slot
open Go.ChangeShapes Go.WideShapes Go.ChangeAt Go.RowKit
open Go.Proofs.Ytffhfpdmfegcpaa.base Go.Proofs.Ytffhfpdmfegcpaa.flat Go.Proofs.Ytffhfpdmfegcpaa.table Go.Proofs.Ytffhfpdmfegcpaa.addr
set_option linter.unusedVariables false
set_option linter.unusedSimpArgs false

/-- a slot's numbers are in their bounds -/
def S4.In (x : S4) (nodes : Int) : Prop := (0 ≤ x.at_ ∧ x.at_ ≤ nodes - 1) ∧ (0 ≤ x.by_ ∧ x.by_ ≤ nodes - 1) ∧ (0 ≤ x.wait ∧ x.wait ≤ 9)
instance (x : S4) (nodes : Int) : Decidable (x.In nodes) := by unfold S4.In; exact inferInstance
/-- the fault of a slot behind others -/
def slotE (nodes : Int) (pre : List S4) (x : S4) : Int :=
  if ¬ x.In nodes then 4 else if x.full = false then (if x.by_ = 0 ∧ x.wait = 0 then 0 else 3) else if byB pre x.by_ = true then 6 else 0
/-- the first fault -/
def ringL (nodes : Int) (pre : List S4) : List S4 → Int
  | [] => 0
  | x :: l => if slotE nodes pre x = 0 then ringL nodes (pre ++ [x]) l else slotE nodes pre x
theorem ringL_skip (nodes : Int) : ∀ (l l2 pre : List S4), (∀ (i : Nat) (x : S4), l[i]? = some x → slotE nodes (pre ++ l.take i) x = 0) → ringL nodes pre (l ++ l2) = ringL nodes (pre ++ l) l2
  | [], l2, pre, _ => by simp
  | x :: l, l2, pre, h => by
    have h0 := h 0 x rfl
    rw [List.take_zero, List.append_nil] at h0
    show (if slotE nodes pre x = 0 then ringL nodes (pre ++ [x]) (l ++ l2) else slotE nodes pre x) = _
    rw [if_pos h0, ringL_skip nodes l l2 (pre ++ [x]) (fun i y hy => by
      have := h (i + 1) y (by simpa using hy)
      simpa [List.append_assoc] using this)]
    congr 1
    simp
theorem ringL_at {nodes : Int} {ss : List S4} {k : Nat} {x : S4} (h : ∀ (i : Nat) (y : S4), i < k → ss[i]? = some y → slotE nodes (ss.take i) y = 0) (hx : ss[k]? = some x) (hb : ¬ slotE nodes (ss.take k) x = 0) : ringL nodes [] ss = slotE nodes (ss.take k) x := by
  have hk := (List.getElem?_eq_some_iff.1 hx).1
  have e : ss = ss.take k ++ x :: ss.drop (k + 1) := by
    obtain ⟨hk, hx⟩ := List.getElem?_eq_some_iff.1 hx
    rw [← hx, ← List.drop_eq_getElem_cons hk, List.take_append_drop]
  have h1 := ringL_skip nodes (ss.take k) (x :: ss.drop (k + 1)) [] (fun i y hy => by
    rw [List.getElem?_take] at hy
    split at hy
    · rename_i hik
      rw [List.nil_append, List.take_take, show min i k = i by omega]
      exact h i y hik hy
    · cases hy)
  rw [← e, List.nil_append] at h1
  rw [h1]
  show (if slotE nodes (ss.take k) x = 0 then _ else _) = _
  rw [if_neg hb]
theorem ringL_ok {nodes : Int} {ss : List S4} (h : ∀ (i : Nat) (y : S4), ss[i]? = some y → slotE nodes (ss.take i) y = 0) : ringL nodes [] ss = 0 := by
  have h1 := ringL_skip nodes ss [] [] (fun i y hy => by rw [List.nil_append]; exact h i y hy)
  rw [List.append_nil] at h1
  rw [h1]; rfl
def ringE (n s y b : Int) (ss : List S4) : Int := if cfgE n s y b = 0 then (if ss.length < 1 ∨ 8 < ss.length then 4 else ringL n [] ss) else cfgE n s y b

set_option maxRecDepth 100000 in
theorem rspan_any (k most : Int) (w : World) : Calls Try.prog 66 #[.int .i64 k, .int .i64 most] w fun e w' => e = .returned (.bool (spanB k 0 most)) ∧ w = w' := by
  by_cases h1 : 0 ≤ k
  · by_cases h2 : k ≤ most
    · go_enter Try.func66, Try.ntmps66
      go_wp2
      go_ret
      exact ⟨ret_bool (spanB_yes ⟨h1, h2⟩).symm, rfl⟩
    · go_enter Try.func66, Try.ntmps66
      go_wp2
      go_ret
      exact ⟨ret_bool (spanB_no (by omega)).symm, rfl⟩
  · go_enter Try.func66, Try.ntmps66
    go_wp2
    go_ret
    exact ⟨ret_bool (spanB_no (by omega)).symm, rfl⟩

theorem next_ok {nodes : Int} {ss : List S4} {k : Nat} {x : S4} (hx : ss[k]? = some x) (h : ∀ (i : Nat) (y : S4), i < k → ss[i]? = some y → slotE nodes (ss.take i) y = 0) (hf : slotE nodes (ss.take k) x = 0) : ∀ (i : Nat) (y : S4), i < k + 1 → ss[i]? = some y → slotE nodes (ss.take i) y = 0 := by
  intro i y hi hy
  by_cases hik : i < k
  · exact h i y hik hy
  · obtain rfl : i = k := by omega
    obtain rfl := Option.some.inj (hx.symm.trans hy)
    exact hf
def RelR (nodes : Int) (ss : List S4) (w0 : World) (i : Value) (wr : World) : Prop :=
  ∃ (k : Nat) (l : Array Obj) (d : Nat), k ≤ ss.length ∧ i = .int .i64 k ∧ wr = w0.later l d ∧ ∀ (i : Nat) (y : S4), i < k → ss[i]? = some y → slotE nodes (ss.take i) y = 0

set_option maxHeartbeats 4000000 in
set_option maxRecDepth 100000 in
theorem ringCheck_ok (cn cs cy cb : Int) (ss : List S4) (a : Option Addr) (n c : Nat) (w : World) (hn : 1 ≤ n ∧ n ≤ 8) (hnc : n ≤ c) (hcm : c ≤ maxLen) (hd : ss.length = n) (h : SlotsAt w a ss) (hc : CfgOK cn cs cy cb) :
    Calls Try.prog 45 #[.agg #[.int .i64 cn, .int .i64 cs, .int .i64 cy, .int .i64 cb], .slice a n c] w (Ret (.int .i64 (ringL cn [] ss)) w) := by
  have PC := fun w => check_any cn cs cy cb w
  rw [cfgE_ok hc] at PC
  have HC := Lib.hid PC
  have HDL := Lib.hid hd
  have HT := Lib.hid h
  have hcn : 2 ≤ cn ∧ cn ≤ 8 := ⟨hc.1, hc.2.1⟩
  obtain ⟨hn1, hn8⟩ := hn
  have hn1' : (1 : Int) ≤ n := by omega
  have hn8' : (n : Int) ≤ 8 := by omega
  unfold maxLen at hcm
  clear PC hd h hc
  go_enter Try.func45, Try.ntmps45
  go_wp2_with (first
    | (go_at_call 28; refine (HC.out _).mono ?_; rintro e w1 ⟨rfl, hb1⟩; obtain ⟨l1, d1, rfl⟩ := later_of hb1; clear hb1))
  go_loopw [23] (RelR cn ss ((w.alloc (.cells #[.int .i64 cn, .int .i64 cs, .int .i64 cy, .int .i64 cb] 42)).later l1 d1)) (fun i _ => n - (intOf i).toNat)
  case atStart => exact ⟨0, #[], _, by omega, rfl, later_zero _, fun i x hi => by omega⟩
  case round =>
    obtain ⟨k, l, d, hk, rfl, rfl, hall⟩ := hrel
    by_cases hlt : k < n
    · obtain ⟨x, hx⟩ := get_some (xs := ss) (k := k) (by rw [HDL.out]; exact hlt)
      obtain ⟨b, off, rfl⟩ := SlotsAt.form HT.out hx
      obtain ⟨c0, c1, c2, c3⟩ := SlotsAt.at HT.out hx
      have hin : inB w b := lt_of_cell c0
      have HX := Lib.hid hx
      have HALL := Lib.hid hall
      have HJ : Hid (k + 1 ≤ ss.length) := Lib.hid (by rw [HDL.out]; exact hlt)
      have HTK := Lib.hid (SlotsAt.take HT.out k)
      have hkc : k ≤ c := by omega
      have PB := fun w h => by_any (ss.take k) x.by_ (some ⟨b, off, none⟩) k c w (by unfold maxLen; omega) (by rw [List.length_take, HDL.out]; omega) h
      have hval : slotE cn (ss.take k) x = slotE cn (ss.take k) x := rfl
      obtain ⟨xa, xf, xb, xw⟩ := x
      simp only at c0 c1 c2 c3 PB
      have HBY := Lib.hid PB
      clear hx hall PB hk hval
      by_cases h1 : 0 ≤ xa ∧ xa ≤ cn - 1
      case' neg =>
        have e1 : spanB xa 0 (cn - 1) = false := spanB_no (by omega)
        have HV : Hid (slotE cn (ss.take k) ⟨xa, xf, xb, xw⟩ = 4) := Lib.hid (if_pos fun h => h1 h.1)
        clear h1
        have HE := Lib.hid ((ringL_at HALL.out HX.out (by rw [HV.out]; decide)).trans HV.out)
        go_wp2_with (first
          | (go_at_call 66; refine (rspan_any _ _ _).mono ?_; rintro e w1 ⟨rfl, rfl⟩)
          | (go_at_call 67; refine (HBY.out _ (SlotsAt.below HTK.out (by repeat (first | exact Below.refl _ _ | apply bs_later | apply bs_alloc | apply bs_drew | apply bs_drewN)))).mono ?_; rintro e w1 ⟨rfl, hb1⟩; obtain ⟨l2, d2, rfl⟩ := later_of hb1; clear hb1))
        go_ret
        exact ⟨congrArg (fun z => Ending.returned (Value.int .i64 z)) HE.out.symm, (by repeat (first | exact Below.refl _ _ | apply bs_later | apply bs_alloc | apply bs_drew | apply bs_drewN))⟩
      have e1 : spanB xa 0 (cn - 1) = true := spanB_yes h1
      by_cases h2 : 0 ≤ xb ∧ xb ≤ cn - 1
      case' neg =>
        have e2 : spanB xb 0 (cn - 1) = false := spanB_no (by omega)
        have HV : Hid (slotE cn (ss.take k) ⟨xa, xf, xb, xw⟩ = 4) := Lib.hid (if_pos fun h => h2 h.2.1)
        clear h1 h2
        have HE := Lib.hid ((ringL_at HALL.out HX.out (by rw [HV.out]; decide)).trans HV.out)
        go_wp2_with (first
          | (go_at_call 66; refine (rspan_any _ _ _).mono ?_; rintro e w1 ⟨rfl, rfl⟩)
          | (go_at_call 67; refine (HBY.out _ (SlotsAt.below HTK.out (by repeat (first | exact Below.refl _ _ | apply bs_later | apply bs_alloc | apply bs_drew | apply bs_drewN)))).mono ?_; rintro e w1 ⟨rfl, hb1⟩; obtain ⟨l2, d2, rfl⟩ := later_of hb1; clear hb1))
        go_ret
        exact ⟨congrArg (fun z => Ending.returned (Value.int .i64 z)) HE.out.symm, (by repeat (first | exact Below.refl _ _ | apply bs_later | apply bs_alloc | apply bs_drew | apply bs_drewN))⟩
      have e2 : spanB xb 0 (cn - 1) = true := spanB_yes h2
      by_cases h3 : 0 ≤ xw ∧ xw ≤ 9
      case' neg =>
        have e3 : spanB xw 0 9 = false := spanB_no (by omega)
        have HV : Hid (slotE cn (ss.take k) ⟨xa, xf, xb, xw⟩ = 4) := Lib.hid (if_pos fun h => h3 h.2.2)
        clear h1 h2 h3
        have HE := Lib.hid ((ringL_at HALL.out HX.out (by rw [HV.out]; decide)).trans HV.out)
        go_wp2_with (first
          | (go_at_call 66; refine (rspan_any _ _ _).mono ?_; rintro e w1 ⟨rfl, rfl⟩)
          | (go_at_call 67; refine (HBY.out _ (SlotsAt.below HTK.out (by repeat (first | exact Below.refl _ _ | apply bs_later | apply bs_alloc | apply bs_drew | apply bs_drewN)))).mono ?_; rintro e w1 ⟨rfl, hb1⟩; obtain ⟨l2, d2, rfl⟩ := later_of hb1; clear hb1))
        go_ret
        exact ⟨congrArg (fun z => Ending.returned (Value.int .i64 z)) HE.out.symm, (by repeat (first | exact Below.refl _ _ | apply bs_later | apply bs_alloc | apply bs_drew | apply bs_drewN))⟩
      have e3 : spanB xw 0 9 = true := spanB_yes h3
      have hIn : ¬ ¬ (⟨xa, xf, xb, xw⟩ : S4).In cn := fun h => h ⟨h1, h2, h3⟩
      have HV0 : Hid (slotE cn (ss.take k) ⟨xa, xf, xb, xw⟩ = if xf = false then (if xb = 0 ∧ xw = 0 then 0 else 3) else if byB (ss.take k) xb = true then 6 else 0) := Lib.hid (if_neg hIn)
      clear hIn h1 h2 h3
      cases xf with
      | false =>
        by_cases hb0 : xb = 0
        · by_cases hw0 : xw = 0
          · subst hb0 hw0
            have HV : Hid (slotE cn (ss.take k) ⟨xa, false, 0, 0⟩ = 0) := Lib.hid HV0.out
            go_wp2_with (go_at_call 66; refine (rspan_any _ _ _).mono ?_; rintro e w1 ⟨rfl, rfl⟩)
            go_quiet (fail)
            all_goals
              go_wp2
              rw [later_alloc]
              go_roundw
              case rel => exact ⟨k + 1, _, _, HJ.out, by go_num, rfl, next_ok HX.out HALL.out HV.out⟩
              case measure => simp [intOf]; omega
          · have hw' : (xw != 0) = true := by simpa using hw0
            have HV : Hid (slotE cn (ss.take k) ⟨xa, false, xb, xw⟩ = 3) := Lib.hid (HV0.out.trans (by rw [if_pos rfl, if_neg (fun h => hw0 h.2)]))
            subst hb0
            clear hw0
            have HE := Lib.hid ((ringL_at HALL.out HX.out (by rw [HV.out]; decide)).trans HV.out)
            go_wp2_with (first
              | (go_at_call 66; refine (rspan_any _ _ _).mono ?_; rintro e w1 ⟨rfl, rfl⟩)
              | (go_at_call 67; refine (HBY.out _ (SlotsAt.below HTK.out (by repeat (first | exact Below.refl _ _ | apply bs_later | apply bs_alloc | apply bs_drew | apply bs_drewN)))).mono ?_; rintro e w1 ⟨rfl, hb1⟩; obtain ⟨l2, d2, rfl⟩ := later_of hb1; clear hb1))
            go_ret
            exact ⟨congrArg (fun z => Ending.returned (Value.int .i64 z)) HE.out.symm, (by repeat (first | exact Below.refl _ _ | apply bs_later | apply bs_alloc | apply bs_drew | apply bs_drewN))⟩
        · have hb' : (xb != 0) = true := by simpa using hb0
          have HV : Hid (slotE cn (ss.take k) ⟨xa, false, xb, xw⟩ = 3) := Lib.hid (HV0.out.trans (by rw [if_pos rfl, if_neg (fun h => hb0 h.1)]))
          clear hb0
          have HE := Lib.hid ((ringL_at HALL.out HX.out (by rw [HV.out]; decide)).trans HV.out)
          go_wp2_with (first
            | (go_at_call 66; refine (rspan_any _ _ _).mono ?_; rintro e w1 ⟨rfl, rfl⟩)
            | (go_at_call 67; refine (HBY.out _ (SlotsAt.below HTK.out (by repeat (first | exact Below.refl _ _ | apply bs_later | apply bs_alloc | apply bs_drew | apply bs_drewN)))).mono ?_; rintro e w1 ⟨rfl, hb1⟩; obtain ⟨l2, d2, rfl⟩ := later_of hb1; clear hb1))
          go_ret
          exact ⟨congrArg (fun z => Ending.returned (Value.int .i64 z)) HE.out.symm, (by repeat (first | exact Below.refl _ _ | apply bs_later | apply bs_alloc | apply bs_drew | apply bs_drewN))⟩
      | true =>
        have hcase : byB (ss.take k) xb = true ∨ byB (ss.take k) xb = false := by cases byB (ss.take k) xb <;> simp
        rcases hcase with hc | hc
        · have HV : Hid (slotE cn (ss.take k) ⟨xa, true, xb, xw⟩ = 6) := Lib.hid (HV0.out.trans (by rw [if_neg (by decide), if_pos hc]))
          have HE := Lib.hid ((ringL_at HALL.out HX.out (by rw [HV.out]; decide)).trans HV.out)
          go_wp2_with (go_at_call 66; refine (rspan_any _ _ _).mono ?_; rintro e w1 ⟨rfl, rfl⟩)
          go_region_with (go_at_call 67; refine (HBY.out _ (SlotsAt.below HTK.out (by repeat (first | exact Below.refl _ _ | apply bs_later | apply bs_alloc | apply bs_drew | apply bs_drewN)))).mono ?_; rintro e w1 ⟨rfl, hb1⟩; obtain ⟨l2, d2, rfl⟩ := later_of hb1; clear hb1)
          all_goals
            go_wp2
            go_ret
            exact ⟨congrArg (fun z => Ending.returned (Value.int .i64 z)) HE.out.symm, (by repeat (first | exact Below.refl _ _ | apply bs_later | apply bs_alloc | apply bs_drew | apply bs_drewN))⟩
        · have HV : Hid (slotE cn (ss.take k) ⟨xa, true, xb, xw⟩ = 0) := Lib.hid (HV0.out.trans (by rw [if_neg (by decide), if_neg (by rw [hc]; decide)]))
          go_wp2_with (go_at_call 66; refine (rspan_any _ _ _).mono ?_; rintro e w1 ⟨rfl, rfl⟩)
          go_region_with (go_at_call 67; refine (HBY.out _ (SlotsAt.below HTK.out (by repeat (first | exact Below.refl _ _ | apply bs_later | apply bs_alloc | apply bs_drew | apply bs_drewN)))).mono ?_; rintro e w1 ⟨rfl, hb1⟩; obtain ⟨l2, d2, rfl⟩ := later_of hb1; clear hb1)
          all_goals
            go_wp2
            rw [later_alloc _ l, later_drew, later_later _ _ l2 _ d2]
            go_roundw
            case rel => exact ⟨k + 1, _, _, HJ.out, by go_num, rfl, next_ok HX.out HALL.out HV.out⟩
            case measure => simp [intOf]; omega
    · obtain rfl : k = n := by have := HDL.out; omega
      have HE := Lib.hid (ringL_ok (nodes := cn) (ss := ss) fun i x hx => hall i x (by rw [← HDL.out]; exact (List.getElem?_eq_some_iff.1 hx).1) hx)
      clear hall
      go_wp2
      go_ret
      exact ⟨congrArg (fun z => Ending.returned (Value.int .i64 z)) HE.out.symm, (by repeat (first | exact Below.refl _ _ | apply bs_later | apply bs_alloc | apply bs_drew | apply bs_drewN))⟩

set_option maxHeartbeats 1000000 in
set_option maxRecDepth 100000 in
theorem ringCheck_any (cn cs cy cb : Int) (ss : List S4) (a : Option Addr) (n c : Nat) (w : World) (hnc : n ≤ c) (hcm : c ≤ maxLen) (hd : ss.length = n) (h : SlotsAt w a ss) :
    Calls Try.prog 45 #[.agg #[.int .i64 cn, .int .i64 cs, .int .i64 cy, .int .i64 cb], .slice a n c] w (Ret (.int .i64 (ringE cn cs cy cb ss)) w) := by
  have PC := fun w => check_any cn cs cy cb w
  unfold ringE
  by_cases hc : CfgOK cn cs cy cb
  · rw [if_pos (cfgE_ok hc)]
    by_cases hl : ss.length < 1 ∨ 8 < ss.length
    · rw [if_pos hl]
      rw [cfgE_ok hc] at PC
      have HC := Lib.hid PC
      unfold maxLen at hcm
      have hl' : n = 0 ∨ (1 ≤ n ∧ 8 < n) := by omega
      clear PC h hc hl hd
      rcases hl' with rfl | ⟨h1, h8⟩
      · go_enter Try.func45, Try.ntmps45
        go_wp2_with (go_at_call 28; refine (HC.out _).mono ?_; rintro e w1 ⟨rfl, hb1⟩; obtain ⟨l1, d1, rfl⟩ := later_of hb1; clear hb1)
        go_ret
        exact ⟨rfl, (by repeat (first | exact Below.refl _ _ | apply bs_later | apply bs_alloc | apply bs_drew | apply bs_drewN))⟩
      · have h8' : (8 : Int) < n := by omega
        have h1' : (1 : Int) ≤ n := by omega
        go_enter Try.func45, Try.ntmps45
        go_wp2_with (go_at_call 28; refine (HC.out _).mono ?_; rintro e w1 ⟨rfl, hb1⟩; obtain ⟨l1, d1, rfl⟩ := later_of hb1; clear hb1)
        go_ret
        exact ⟨rfl, (by repeat (first | exact Below.refl _ _ | apply bs_later | apply bs_alloc | apply bs_drew | apply bs_drewN))⟩
    · rw [if_neg hl]
      exact ringCheck_ok cn cs cy cb ss a n c w (by omega) hnc hcm hd h hc
  · rw [if_neg (by rw [cfgE_bad hc]; decide), cfgE_bad hc]
    rw [cfgE_bad hc] at PC
    have HC := Lib.hid PC
    clear PC h hc hd
    go_enter Try.func45, Try.ntmps45
    go_wp2_with (go_at_call 28; refine (HC.out _).mono ?_; rintro e w1 ⟨rfl, hb1⟩; obtain ⟨l1, d1, rfl⟩ := later_of hb1; clear hb1)
    go_ret
    exact ⟨rfl, (by repeat (first | exact Below.refl _ _ | apply bs_later | apply bs_alloc | apply bs_drew | apply bs_drewN))⟩
end Go.Proofs.Ytffhfpdmfegcpaa.slot
