/- The contract of ring.Put. -/
import Derived.Test.YtffhfpdmfegcpacRingPut
namespace Go.Proofs.Ytffhfpdmfegcpac.slot
open Go.ChangeShapes Go.WideShapes Go.ChangeAt Go.RowKit
open Go.Proofs.Ytffhfpdmfegcpac.base Go.Proofs.Ytffhfpdmfegcpac.flat Go.Proofs.Ytffhfpdmfegcpac.table Go.Proofs.Ytffhfpdmfegcpac.addr
set_option linter.unusedVariables false
set_option linter.unusedSimpArgs false

set_option maxHeartbeats 1000000 in
set_option maxRecDepth 100000 in
theorem put1_any (x : S4) (node : Int) (g : Nat) (w : World) (hg : w.cell? ⟨g, 0, none⟩ = some (.int .i64 node)) :
    Calls Try.prog 67 #[.agg #[.int .i64 x.at_, .bool x.full, .int .i64 x.by_, .int .i64 x.wait], .pointer (some ⟨g, 0, none⟩)] w (Ret (.bool (x.free node)) w) := by
  have hgi : inB w g := lt_of_cell hg
  obtain ⟨xa, xf, xb, xw⟩ := x
  cases xf with
  | true =>
    rw [show (⟨xa, true, xb, xw⟩ : S4).free node = false from rfl]
    go_enter Try.func67, Try.ntmps67
    go_wp2
    go_ret
    exact ⟨rfl, (by repeat (first | exact Below.refl _ _ | apply bs_later | apply bs_alloc | apply bs_drew | apply bs_drewN))⟩
  | false =>
    rw [show (⟨xa, false, xb, xw⟩ : S4).free node = (xa == node) from rfl]
    go_enter Try.func67, Try.ntmps67
    go_wp2
    go_ret
    exact ⟨rfl, (by repeat (first | exact Below.refl _ _ | apply bs_later | apply bs_alloc | apply bs_drew | apply bs_drewN))⟩

/-- the first slot that is free, or -1 -/
def IdxPut (xs : List S4) (node : Int) (w : World) (e : Ending) (w' : World) : Prop :=
  Below w.heap.size w w' ∧ ((∃ (k : Nat) (x : S4), e = .returned (.int .i64 k) ∧ xs[k]? = some x ∧ x.free node = true ∧ ∀ (i : Nat) (y : S4), i < k → xs[i]? = some y → y.free node = false)
    ∨ (e = .returned (.int .i64 (-1)) ∧ ∀ (i : Nat) (y : S4), xs[i]? = some y → y.free node = false))
set_option maxHeartbeats 1000000 in
set_option maxRecDepth 100000 in
theorem index_put (xs : List S4) (node : Int) (a : Option Addr) (n c g : Nat) (w : World) (hm : n ≤ maxLen) (hd : xs.length = n) (h : SlotsAt w a xs) (hg : w.cell? ⟨g, 0, none⟩ = some (.int .i64 node)) :
    Calls Try.prog 66 #[.slice a n c, .func (.func 67) #[] #[.pointer (some ⟨g, 0, none⟩)]] w (IdxPut xs node w) := by
  unfold maxLen at hm
  have HDL := Lib.hid hd
  have HT := Lib.hid h
  have hgi : inB w g := lt_of_cell hg
  clear hd h
  go_enter Try.func66, Try.ntmps66
  go_wp2
  go_loopw [8] (RelN xs n (fun x => x.free node) w) (fun i _ => n - (intOf i).toNat)
  case atStart => exact ⟨0, #[], _, by omega, rfl, later_zero _, fun i x hi => by omega⟩
  case round =>
    obtain ⟨k, l, d, hk, rfl, rfl, hall⟩ := hrel
    have hall : ∀ (i : Nat) (x : S4), i < k → xs[i]? = some x → x.free node = false := hall
    by_cases hlt : k < n
    · obtain ⟨x, hx⟩ := get_some (xs := xs) (k := k) (by rw [HDL.out]; exact hlt)
      obtain ⟨b, off, rfl⟩ := SlotsAt.form HT.out hx
      obtain ⟨c0, c1, c2, c3⟩ := SlotsAt.at HT.out hx
      have hin : inB w b := lt_of_cell c0
      obtain ⟨xa, xf, xb, xw⟩ := x
      simp only at c0 c1 c2 c3
      have HX := Lib.hid hx
      have HALL := Lib.hid hall
      have P := fun w hg => put1_any (⟨xa, xf, xb, xw⟩ : S4) node g w hg
      simp only at P
      have hcase : (⟨xa, xf, xb, xw⟩ : S4).free node = true ∨ (⟨xa, xf, xb, xw⟩ : S4).free node = false := by cases (⟨xa, xf, xb, xw⟩ : S4).free node <;> simp
      clear hx hall hk
      rcases hcase with hc | hc
      · rw [hc] at P
        have HP := Lib.hid P
        have HC := Lib.hid hc
        clear P hc
        go_wp2_with (go_at_call 67; refine (HP.out _ ?g1).mono ?_; (case g1 => rw [(bs_later (Below.refl _ _) _ _ : Below w.heap.size w (w.later l d)).cell (p := ⟨g, 0, none⟩) hgi]; exact hg); rintro e w1 ⟨rfl, hb1⟩; obtain ⟨l1, d1, rfl⟩ := later_of hb1; clear hb1)
        go_ret
        exact ⟨(by repeat (first | exact Below.refl _ _ | apply bs_later | apply bs_alloc | apply bs_drew | apply bs_drewN)), .inl ⟨k, _, rfl, HX.out, HC.out, HALL.out⟩⟩
      · rw [hc] at P
        have HP := Lib.hid P
        have HC := Lib.hid hc
        clear P hc
        go_wp2_with (go_at_call 67; refine (HP.out _ ?g2).mono ?_; (case g2 => rw [(bs_later (Below.refl _ _) _ _ : Below w.heap.size w (w.later l d)).cell (p := ⟨g, 0, none⟩) hgi]; exact hg); rintro e w1 ⟨rfl, hb1⟩; obtain ⟨l1, d1, rfl⟩ := later_of hb1; clear hb1)
        rw [later_later]
        go_roundw
        case rel => exact ⟨k + 1, _, _, hlt, by go_num, rfl, next_not HX.out HALL.out HC.out⟩
        case measure => simp [intOf]; omega
    · obtain rfl : k = n := by have := HDL.out; omega
      have HF := Lib.hid (fun (i : Nat) (x : S4) (hx : xs[i]? = some x) => hall i x (by rw [← HDL.out]; exact (List.getElem?_eq_some_iff.1 hx).1) hx)
      clear hall
      go_wp2
      go_ret
      exact ⟨(by repeat (first | exact Below.refl _ _ | apply bs_later | apply bs_alloc | apply bs_drew | apply bs_drewN)), .inr ⟨rfl, HF.out⟩⟩

theorem first_free (node : Int) : ∀ xs : List S4, (∃ (k : Nat) (x : S4), xs[k]? = some x ∧ x.free node = true ∧ ∀ (i : Nat) (y : S4), i < k → xs[i]? = some y → y.free node = false) ∨ ∀ (i : Nat) (y : S4), xs[i]? = some y → y.free node = false
  | [] => .inr fun i y h => by simp at h
  | x :: l => by
    cases hf : x.free node with
    | true => exact .inl ⟨0, x, rfl, hf, fun i y hi => by omega⟩
    | false =>
      rcases first_free node l with ⟨k, y, h1, h2, h3⟩ | h
      · refine .inl ⟨k + 1, y, by simpa using h1, h2, fun i z hi hz => ?_⟩
        cases i with
        | zero => obtain rfl : x = z := by simpa using hz
                  exact hf
        | succ i => exact h3 i z (by omega) (by simpa using hz)
      · refine .inr fun i z hz => ?_
        cases i with
        | zero => obtain rfl : x = z := by simpa using hz
                  exact hf
        | succ i => exact h i z (by simpa using hz)
theorem index_hit {xs : List S4} {node : Int} {k : Nat} {x : S4} (hx : xs[k]? = some x) (hf : x.free node = true) (hall : ∀ (i : Nat) (y : S4), i < k → xs[i]? = some y → y.free node = false) (a : Option Addr) (n c g : Nat) (w : World) (hm : n ≤ maxLen) (hd : xs.length = n) (h : SlotsAt w a xs) (hg : w.cell? ⟨g, 0, none⟩ = some (.int .i64 node)) :
    Calls Try.prog 66 #[.slice a n c, .func (.func 67) #[] #[.pointer (some ⟨g, 0, none⟩)]] w (Ret (.int .i64 k) w) :=
  (index_put xs node a n c g w hm hd h hg).mono fun e w' h => by
    rcases h with ⟨hb, ⟨k', x', rfl, hx', hf', hall'⟩ | ⟨rfl, hall'⟩⟩
    · refine ⟨?_, hb⟩
      rcases Nat.lt_trichotomy k k' with h | rfl | h
      · rw [hall' k x h hx] at hf; cases hf
      · rfl
      · rw [hall k' x' h hx'] at hf'; cases hf'
    · rw [hall' k x hx] at hf; cases hf
theorem index_miss {xs : List S4} {node : Int} (hall : ∀ (i : Nat) (y : S4), xs[i]? = some y → y.free node = false) (a : Option Addr) (n c g : Nat) (w : World) (hm : n ≤ maxLen) (hd : xs.length = n) (h : SlotsAt w a xs) (hg : w.cell? ⟨g, 0, none⟩ = some (.int .i64 node)) :
    Calls Try.prog 66 #[.slice a n c, .func (.func 67) #[] #[.pointer (some ⟨g, 0, none⟩)]] w (Ret (.int .i64 (-1)) w) :=
  (index_put xs node a n c g w hm hd h hg).mono fun e w' h => by
    rcases h with ⟨hb, ⟨k', x', rfl, hx', hf', hall'⟩ | ⟨rfl, hall'⟩⟩
    · rw [hall k' x' hx'] at hf'; cases hf'
    · exact ⟨rfl, hb⟩

/-- what Put answers -/
def putE (cn cs cy cb node wait : Int) (ss : List S4) : Int :=
  if ringE cn cs cy cb ss = 0 then (if ¬ ((0 ≤ node ∧ node ≤ cn - 1) ∧ (0 ≤ wait ∧ wait ≤ 9)) then 4 else if byB ss node = true then 6 else 0) else ringE cn cs cy cb ss
def PutPost (cn cs cy cb node wait : Int) (ss : List S4) (w : World) (e : Ending) (w' : World) : Prop :=
  Below w.heap.size w w' ∧ ((putE cn cs cy cb node wait ss = 0 ∧ ∃ a c, e = .returned (.tuple #[.slice a ss.length c, .bool (putB node ss), .int .i64 0]) ∧ ss.length ≤ c ∧ c ≤ maxLen ∧ SlotsAt w' a (putL node wait ss))
    ∨ (¬ putE cn cs cy cb node wait ss = 0 ∧ e = .returned (.tuple #[.slice none 0 0, .bool false, .int .i64 (putE cn cs cy cb node wait ss)])))
theorem ringE_len {cn cs cy cb : Int} {ss : List S4} (h : ringE cn cs cy cb ss = 0) : 1 ≤ ss.length ∧ ss.length ≤ 8 ∧ CfgOK cn cs cy cb ∧ ringL cn [] ss = 0 := by
  unfold ringE at h
  by_cases hc : CfgOK cn cs cy cb
  · rw [if_pos (cfgE_ok hc)] at h
    by_cases hl : ss.length < 1 ∨ 8 < ss.length
    · rw [if_pos hl] at h; cases h
    · rw [if_neg hl] at h; exact ⟨by omega, by omega, hc, h⟩
  · rw [cfgE_bad hc] at h; simp at h

set_option maxHeartbeats 4000000 in
set_option maxRecDepth 100000 in
theorem put_bad (cn cs cy cb node wait : Int) (ss : List S4) (a : Option Addr) (n c : Nat) (w : World) (hnc : n ≤ c) (hcm : c ≤ maxLen) (hd : ss.length = n) (h : SlotsAt w a ss) (h0 : ¬ putE cn cs cy cb node wait ss = 0) :
    Calls Try.prog 25 #[.agg #[.int .i64 cn, .int .i64 cs, .int .i64 cy, .int .i64 cb], .slice a n c, .int .i64 node, .int .i64 wait] w (PutPost cn cs cy cb node wait ss w) := by
  have P := fun w h => ringCheck_any cn cs cy cb ss a n c w hnc hcm hd h
  have HP := Lib.hid P
  have HT := Lib.hid h
  have HN := Lib.hid h0
  have HB := Lib.hid fun w h => by_any ss node a n c w (by omega) hd h
  by_cases hr : ringE cn cs cy cb ss = 0
  · have hE : putE cn cs cy cb node wait ss = (if ¬ ((0 ≤ node ∧ node ≤ cn - 1) ∧ (0 ≤ wait ∧ wait ≤ 9)) then 4 else if byB ss node = true then 6 else 0) := if_pos hr
    have hcn := (ringE_len hr).2.2.1
    have hcn : 2 ≤ cn ∧ cn ≤ 8 := ⟨hcn.1, hcn.2.1⟩
    unfold maxLen at hcm
    by_cases h1 : 0 ≤ node ∧ node ≤ cn - 1
    · by_cases h2 : 0 ≤ wait ∧ wait ≤ 9
      · rw [if_neg (fun h => h ⟨h1, h2⟩)] at hE
        have hb : byB ss node = true := by
          cases hb : byB ss node with
          | true => rfl
          | false => rw [hb] at hE; exact absurd hE h0
        rw [if_pos hb] at hE
        have HE := Lib.hid hE
        have e1 : spanB node 0 (cn - 1) = true := spanB_yes h1
        have e2 : spanB wait 0 9 = true := spanB_yes h2
        clear P h h0 h1 h2 hE hd
        go_enter Try.func25, Try.ntmps25
        go_wp2_with (first
          | (go_at_call 31; refine (HP.out _ (SlotsAt.below HT.out (by repeat (first | exact Below.refl _ _ | apply bs_later | apply bs_alloc | apply bs_drew | apply bs_drewN)))).mono ?_; rintro e w1 ⟨rfl, hb1⟩; obtain ⟨l1, d1, rfl⟩ := later_of hb1; clear hb1)
          | (go_at_call 63; refine (rspan_any _ _ _).mono ?_; rintro e w1 ⟨rfl, rfl⟩)
          | (go_at_call 64; refine (HB.out _ (SlotsAt.below HT.out (by repeat (first | exact Below.refl _ _ | apply bs_later | apply bs_alloc | apply bs_drew | apply bs_drewN)))).mono ?_; rintro e w1 ⟨rfl, hb1⟩; obtain ⟨l2, d2, rfl⟩ := later_of hb1; clear hb1))
        go_ret3
        exact ⟨(by repeat (first | exact Below.refl _ _ | apply bs_later | apply bs_alloc | apply bs_drew | apply bs_drewN)), .inr ⟨by rw [HE.out]; decide, by rw [HE.out]; rfl⟩⟩
      · rw [if_pos (fun h => h2 h.2)] at hE
        have HE := Lib.hid hE
        have e1 : spanB node 0 (cn - 1) = true := spanB_yes h1
        have e2 : spanB wait 0 9 = false := spanB_no (by omega)
        clear P h h0 h1 h2 hE hd
        go_enter Try.func25, Try.ntmps25
        go_wp2_with (first
          | (go_at_call 31; refine (HP.out _ (SlotsAt.below HT.out (by repeat (first | exact Below.refl _ _ | apply bs_later | apply bs_alloc | apply bs_drew | apply bs_drewN)))).mono ?_; rintro e w1 ⟨rfl, hb1⟩; obtain ⟨l1, d1, rfl⟩ := later_of hb1; clear hb1)
          | (go_at_call 63; refine (rspan_any _ _ _).mono ?_; rintro e w1 ⟨rfl, rfl⟩)
          | (go_at_call 64; refine (HB.out _ (SlotsAt.below HT.out (by repeat (first | exact Below.refl _ _ | apply bs_later | apply bs_alloc | apply bs_drew | apply bs_drewN)))).mono ?_; rintro e w1 ⟨rfl, hb1⟩; obtain ⟨l2, d2, rfl⟩ := later_of hb1; clear hb1))
        go_ret3
        exact ⟨(by repeat (first | exact Below.refl _ _ | apply bs_later | apply bs_alloc | apply bs_drew | apply bs_drewN)), .inr ⟨by rw [HE.out]; decide, by rw [HE.out]; rfl⟩⟩
    · rw [if_pos (fun h => h1 h.1)] at hE
      have HE := Lib.hid hE
      have e1 : spanB node 0 (cn - 1) = false := spanB_no (by omega)
      clear P h h0 h1 hE hd
      go_enter Try.func25, Try.ntmps25
      go_wp2_with (first
          | (go_at_call 31; refine (HP.out _ (SlotsAt.below HT.out (by repeat (first | exact Below.refl _ _ | apply bs_later | apply bs_alloc | apply bs_drew | apply bs_drewN)))).mono ?_; rintro e w1 ⟨rfl, hb1⟩; obtain ⟨l1, d1, rfl⟩ := later_of hb1; clear hb1)
          | (go_at_call 63; refine (rspan_any _ _ _).mono ?_; rintro e w1 ⟨rfl, rfl⟩)
          | (go_at_call 64; refine (HB.out _ (SlotsAt.below HT.out (by repeat (first | exact Below.refl _ _ | apply bs_later | apply bs_alloc | apply bs_drew | apply bs_drewN)))).mono ?_; rintro e w1 ⟨rfl, hb1⟩; obtain ⟨l2, d2, rfl⟩ := later_of hb1; clear hb1))
      go_ret3
      exact ⟨(by repeat (first | exact Below.refl _ _ | apply bs_later | apply bs_alloc | apply bs_drew | apply bs_drewN)), .inr ⟨by rw [HE.out]; decide, by rw [HE.out]; rfl⟩⟩
  · have hE : putE cn cs cy cb node wait ss = ringE cn cs cy cb ss := if_neg hr
    have hr' : (ringE cn cs cy cb ss != 0) = true := by simpa using hr
    have HE := Lib.hid hE
    clear P h h0 hE hd hr
    go_enter Try.func25, Try.ntmps25
    go_wp2_with (first
          | (go_at_call 31; refine (HP.out _ (SlotsAt.below HT.out (by repeat (first | exact Below.refl _ _ | apply bs_later | apply bs_alloc | apply bs_drew | apply bs_drewN)))).mono ?_; rintro e w1 ⟨rfl, hb1⟩; obtain ⟨l1, d1, rfl⟩ := later_of hb1; clear hb1)
          | (go_at_call 63; refine (rspan_any _ _ _).mono ?_; rintro e w1 ⟨rfl, rfl⟩)
          | (go_at_call 64; refine (HB.out _ (SlotsAt.below HT.out (by repeat (first | exact Below.refl _ _ | apply bs_later | apply bs_alloc | apply bs_drew | apply bs_drewN)))).mono ?_; rintro e w1 ⟨rfl, hb1⟩; obtain ⟨l2, d2, rfl⟩ := later_of hb1; clear hb1))
    go_ret3
    exact ⟨(by repeat (first | exact Below.refl _ _ | apply bs_later | apply bs_alloc | apply bs_drew | apply bs_drewN)), .inr ⟨HN.out, by rw [HE.out]; rfl⟩⟩

set_option maxHeartbeats 4000000 in
set_option maxRecDepth 100000 in
theorem put_ok (cn cs cy cb node wait : Int) (ss : List S4) (b off : Nat) (n c : Nat) (w : World) (hnc : n ≤ c) (hcm : c ≤ maxLen) (hd : ss.length = n) (h : SlotsAt w (some ⟨b, off, none⟩) ss) (h0 : putE cn cs cy cb node wait ss = 0) :
    Calls Try.prog 25 #[.agg #[.int .i64 cn, .int .i64 cs, .int .i64 cy, .int .i64 cb], .slice (some ⟨b, off, none⟩) n c, .int .i64 node, .int .i64 wait] w (PutPost cn cs cy cb node wait ss w) := by
  have hr : ringE cn cs cy cb ss = 0 := by
    by_cases hr : ringE cn cs cy cb ss = 0
    · exact hr
    · exact (if_neg hr : putE cn cs cy cb node wait ss = _).symm.trans h0
  have hE : putE cn cs cy cb node wait ss = (if ¬ ((0 ≤ node ∧ node ≤ cn - 1) ∧ (0 ≤ wait ∧ wait ≤ 9)) then 4 else if byB ss node = true then 6 else 0) := if_pos hr
  have h12 : (0 ≤ node ∧ node ≤ cn - 1) ∧ (0 ≤ wait ∧ wait ≤ 9) := by
    by_cases h12 : (0 ≤ node ∧ node ≤ cn - 1) ∧ (0 ≤ wait ∧ wait ≤ 9)
    · exact h12
    · rw [if_pos h12, h0] at hE; cases hE
  rw [if_neg (fun h => h h12), h0] at hE
  have hb : byB ss node = false := by
    cases hb : byB ss node with
    | false => rfl
    | true => rw [hb] at hE; cases hE
  have hlen := ringE_len hr
  have hcn : 2 ≤ cn ∧ cn ≤ 8 := ⟨hlen.2.2.1.1, hlen.2.2.1.2.1⟩
  have hn1 : 1 ≤ n := by omega
  have hn8 : n ≤ 8 := by omega
  have HP := Lib.hid fun w h => ringCheck_any cn cs cy cb ss (some ⟨b, off, none⟩) n c w hnc hcm hd h
  have HT := Lib.hid h
  have HB := Lib.hid fun w h => by_any ss node (some ⟨b, off, none⟩) n c w (by omega) hd h
  have HK := Lib.hid fun w h => clone_any ss b off n c w hn8 hd h
  have hfirst := first_free node ss
  have HD := Lib.hid hd
  have H0 := Lib.hid h0
  have e1 : spanB node 0 (cn - 1) = true := spanB_yes h12.1
  have e2 : spanB wait 0 9 = true := spanB_yes h12.2
  unfold maxLen at hcm
  clear h h0 hE hd hlen h12
  go_enter Try.func25, Try.ntmps25
  go_wp2_with (first
          | (go_at_call 31; refine (HP.out _ (SlotsAt.below HT.out (by repeat (first | exact Below.refl _ _ | apply bs_later | apply bs_alloc | apply bs_drew | apply bs_drewN)))).mono ?_; rintro e w1 ⟨rfl, hb1⟩; obtain ⟨l1, d1, rfl⟩ := later_of hb1; clear hb1)
          | (go_at_call 63; refine (rspan_any _ _ _).mono ?_; rintro e w1 ⟨rfl, rfl⟩)
          | (go_at_call 64; refine (HB.out _ (SlotsAt.below HT.out (by repeat (first | exact Below.refl _ _ | apply bs_later | apply bs_alloc | apply bs_drew | apply bs_drewN)))).mono ?_; rintro e w1 ⟨rfl, hb1⟩; obtain ⟨l2, d2, rfl⟩ := later_of hb1; clear hb1))
  generalize hXe : (((w.alloc (.cells #[.int .i64 cn, .int .i64 cs, .int .i64 cy, .int .i64 cb] 54)).alloc (.cells #[.int .i64 node] 3)).later l1 d1).later l2 d2 = X
  have hXc : X.cell? ⟨w.heap.size + 1, 0, none⟩ = some (.int .i64 node) := by rw [← hXe]; simp [go_sem]
  have hXb : Below w.heap.size w X := by rw [← hXe]; exact (by repeat (first | exact Below.refl _ _ | apply bs_later | apply bs_alloc | apply bs_drew | apply bs_drewN))
  have HTX := Lib.hid (SlotsAt.below HT.out hXb)
  have HXB := Lib.hid hXb
  have hXi : inB X (w.heap.size + 1) := lt_of_cell hXc
  clear hXe hXb
  refine (HK.out _ HTX.out).mono ?_
  rintro e w1 ⟨v, rfl, hown, hb1⟩
  obtain ⟨l3, d3, rfl⟩ := later_of hb1
  rw [HD.out] at hown
  obtain ⟨g, c2, rfl, hg⟩ := own_head (by omega) hown
  have hcap := own_caps hown
  have HO := Lib.hid hown
  clear hown hb1
  have hSX := own_slots_n HD.out HO.out
  have hcX : (X.later l3 d3).cell? ⟨w.heap.size + 1, 0, none⟩ = some (.int .i64 node) := by rw [(bs_later (Below.refl _ _) l3 d3 : Below X.heap.size X (X.later l3 d3)).cell (p := ⟨w.heap.size + 1, 0, none⟩) hXi]; exact hXc
  rcases hfirst with ⟨k, x, hx, hfree, hall⟩ | hall
  · have hkn : k < n := by rw [← HD.out]; exact (List.getElem?_eq_some_iff.1 hx).1
    have HI := Lib.hid (index_hit hx hfree hall (some ⟨g, 0, none⟩) n c2 (w.heap.size + 1) (X.later l3 d3) (by unfold maxLen; omega) HD.out hSX hcX)
    have HX := Lib.hid hx
    have HM4 := Lib.hid fun (l4 : Array Obj) (d4 : Nat) => own_more HO.out l4 d4
    have HFB : Hid (∀ (l4 : Array Obj) (d4 : Nat), farB X (l3 ++ l4) g) := Lib.hid fun l4 d4 => by have h := (own_block (HM4.out l4 d4)).2; simpa [farB] using h
    have hXl : ∀ (l : Array Obj) (d : Nat), (X.later l d).cell? ⟨w.heap.size + 1, 0, none⟩ = some (.int .i64 node) := fun l d => by rw [(bs_later (Below.refl _ _) _ _ : Below X.heap.size X _).cell (p := ⟨w.heap.size + 1, 0, none⟩) hXi]; exact hXc
    have HP2 := Lib.hid (putL_at (wait := wait) hall hx hfree)
    clear hx hfree hall hSX hcX
    go_wp2_with (go_at_call 66; refine HI.out.mono ?_; rintro e w2 ⟨rfl, hb2⟩; obtain ⟨l4, d4, rfl⟩ := later_of hb2; clear hb2; rw [later_later]; obtain ⟨l1', d1', l2', d2', l3', d3', l4', d4', e1, s1, g1, k1, f1, e2, s2, g2, k2, f2, e3, s3, g3, k3, f3, e4, s4, h4⟩ := own_slot (HM4.out l4 d4) HD.out (Nat.le_refl _) hg HX.out ⟨node, true, node, wait⟩; have hf0 := (HM4.out l4 d4).frozenAt (k * 4); obtain ⟨c0, -⟩ := SlotsAt.at (own_slots_n HD.out (HM4.out l4 d4)) HX.out; simp only [Nat.zero_add] at c0; have hgf : farB X (l3 ++ l4) g := HFB.out l4 d4; have HO4 := Lib.hid h4; simp only at e1 k1 e2 k2 e3 k3 e4; have hXc' := hXl l1' d1'; have hXc2' := hXl (l3 ++ l4) d4; clear h4)
    go_ret3
    refine ⟨(by repeat (first | exact HXB.out | apply bs_later | apply bs_alloc | apply bs_drew | apply bs_drewN)), .inl ⟨H0.out, some ⟨g, 0, none⟩, c2, ?_, ?_, hcap.2, ?_⟩⟩
    · rw [HP2.out.2, HD.out]; rfl
    · rw [HD.out]; exact hcap.1
    · rw [HP2.out.1]; exact own_slots_n (by rw [List.length_set, HD.out]) HO4.out
  · have HI := Lib.hid (index_miss hall (some ⟨g, 0, none⟩) n c2 (w.heap.size + 1) (X.later l3 d3) (by unfold maxLen; omega) HD.out hSX hcX)
    have HM := Lib.hid (putL_miss (wait := wait) hall)
    clear hall hSX hcX
    go_wp2_with (go_at_call 66; refine HI.out.mono ?_; rintro e w2 ⟨rfl, hb2⟩; obtain ⟨l4, d4, rfl⟩ := later_of hb2; clear hb2)
    go_ret3
    refine ⟨(by repeat (first | exact HXB.out | apply bs_later | apply bs_alloc | apply bs_drew | apply bs_drewN)), .inl ⟨H0.out, some ⟨g, 0, none⟩, c2, ?_, ?_, hcap.2, ?_⟩⟩
    · rw [HM.out.2, HD.out]; rfl
    · rw [HD.out]; exact hcap.1
    · rw [HM.out.1]; exact own_slots_n HD.out (own_later HO.out)

set_option maxHeartbeats 1000000 in
theorem put_any (cn cs cy cb node wait : Int) (ss : List S4) (a : Option Addr) (n c : Nat) (w : World) (hnc : n ≤ c) (hcm : c ≤ maxLen) (hd : ss.length = n) (h : SlotsAt w a ss) :
    Calls Try.prog 25 #[.agg #[.int .i64 cn, .int .i64 cs, .int .i64 cy, .int .i64 cb], .slice a n c, .int .i64 node, .int .i64 wait] w (PutPost cn cs cy cb node wait ss w) := by
  by_cases h0 : putE cn cs cy cb node wait ss = 0
  · have hr : ringE cn cs cy cb ss = 0 := by
      by_cases hr : ringE cn cs cy cb ss = 0
      · exact hr
      · exact (if_neg hr : putE cn cs cy cb node wait ss = _).symm.trans h0
    obtain ⟨x, hx⟩ := get_some (xs := ss) (k := 0) (by have := (ringE_len hr).1; omega)
    obtain ⟨b, off, rfl⟩ := SlotsAt.form h hx
    exact put_ok cn cs cy cb node wait ss b off n c w hnc hcm hd h h0
  · exact put_bad cn cs cy cb node wait ss a n c w hnc hcm hd h h0
end Go.Proofs.Ytffhfpdmfegcpac.slot
