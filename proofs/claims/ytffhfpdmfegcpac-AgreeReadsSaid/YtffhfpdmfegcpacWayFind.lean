/- The contracts of row.find and of slices.IndexFunc with its test. -/
import Derived.Test.YtffhfpdmfegcpacWays
import Derived.Test.YtffhfpdmfegcpacProgLaw
namespace Go.Proofs.Ytffhfpdmfegcpac.ways
open Go.ChangeShapes Go.WideShapes Go.ChangeAt Go.RowKit
open Go.Proofs.Ytffhfpdmfegcpac.base Go.Proofs.Ytffhfpdmfegcpac.flat Go.Proofs.Ytffhfpdmfegcpac.table
set_option linter.unusedVariables false
set_option linter.unusedSimpArgs false

/-- has the way a line? -/
def hasL (L : Int) (x : W6) : Bool := decide (¬ x.s = 0 ∧ x.l = L)
/-- where a line is; -1 -/
def findW (L : Int) (ws : List W6) : Int := match ws.findIdx? (hasL L) with | some i => (i : Int) | none => -1
theorem findW_at {L : Int} {ws : List W6} {i : Nat} {x : W6} (hx : ws[i]? = some x) (hn : hasL L x = true) (h : ∀ (j : Nat) (y : W6), j < i → ws[j]? = some y → hasL L y = false) : findW L ws = i := by
  have : ws.findIdx? (hasL L) = some i := by
    rw [List.findIdx?_eq_some_iff_getElem]
    obtain ⟨hi, he⟩ := List.getElem?_eq_some_iff.1 hx
    refine ⟨hi, by rw [he]; exact hn, fun j hj => ?_⟩
    have := h j ws[j] hj (List.getElem?_eq_getElem (by omega))
    rw [this]; decide
  unfold findW; rw [this]
theorem findW_none {L : Int} {ws : List W6} (h : ∀ (j : Nat) (y : W6), j < ws.length → ws[j]? = some y → hasL L y = false) : findW L ws = -1 := by
  have : ws.findIdx? (hasL L) = none := by
    rw [List.findIdx?_eq_none_iff]
    intro x hx
    obtain ⟨j, hj⟩ := List.getElem?_of_mem hx
    exact h j x (List.getElem?_eq_some_iff.1 hj).1 hj
  unfold findW; rw [this]
theorem findW_cases (L : Int) (ws : List W6) : (findW L ws = -1 ∧ ∀ x ∈ ws, hasL L x = false) ∨ ∃ (p : Nat) (x : W6), findW L ws = (p : Int) ∧ ws[p]? = some x ∧ hasL L x = true ∧ ∀ (j : Nat) (y : W6), j < p → ws[j]? = some y → hasL L y = false := by
  unfold findW
  cases h : ws.findIdx? (hasL L) with
  | none =>
    left
    rw [List.findIdx?_eq_none_iff] at h
    exact ⟨rfl, h⟩
  | some p =>
    right
    rw [List.findIdx?_eq_some_iff_getElem] at h
    obtain ⟨hp, h1, h2⟩ := h
    refine ⟨p, ws[p], rfl, List.getElem?_eq_getElem hp, h1, fun j y hj hy => ?_⟩
    have := h2 j hj
    rw [List.getElem?_eq_getElem (by omega)] at hy
    injection hy with hy
    rw [hy] at this
    simpa using this

set_option maxHeartbeats 1000000 in
set_option maxRecDepth 100000 in
theorem findTest_any (x : W6) (g : Nat) (L : Int) (w : World) (hk : w.cell? ⟨g, 0, none⟩ = some (.int .i64 L)) :
    Calls Try.prog 96 #[.agg #[.int .i64 x.s, .int .i64 x.l, .int .u64 x.a, .int .u64 x.b, .int .u64 x.c, .int .u64 x.d], .pointer (some ⟨g, 0, none⟩)] w (Ret (.bool (hasL L x)) w) := by
  have hin : inB w g := lt_of_cell hk
  by_cases h0 : x.s = 0
  · have HV : Hid (hasL L x = false) := Lib.hid (decide_eq_false fun h => h.1 h0)
    have h1 : (x.s != 0) = false := by simpa using h0
    obtain ⟨xs, xl, xa, xb, xc, xd⟩ := x
    simp only at h0 h1
    rw [HV.out]
    clear h0
    go_enter Try.func96, Try.ntmps96
    go_wp2
    go_ret
    exact ⟨rfl, (by repeat (first | exact Below.refl _ _ | apply bs_later | apply bs_alloc | apply bs_drew | apply bs_drewN))⟩
  · have HV : Hid (hasL L x = (x.l == L)) := Lib.hid (by unfold hasL; by_cases h : x.l = L <;> simp [h, h0])
    have h1 : (x.s != 0) = true := by simpa using h0
    obtain ⟨xs, xl, xa, xb, xc, xd⟩ := x
    simp only at h0 h1
    rw [HV.out]
    clear h0
    go_enter Try.func96, Try.ntmps96
    go_wp2
    go_ret
    exact ⟨rfl, (by repeat (first | exact Below.refl _ _ | apply bs_later | apply bs_alloc | apply bs_drew | apply bs_drewN))⟩
def RelW (L : Int) (ws : List W6) (w0 : World) (i : Value) (wr : World) : Prop :=
  ∃ (j : Nat) (l : Array Obj) (d : Nat), j ≤ ws.length ∧ i = .int .i64 j ∧ wr = w0.later l d ∧ ∀ (i : Nat) (y : W6), i < j → ws[i]? = some y → hasL L y = false
set_option maxHeartbeats 1000000 in
set_option maxRecDepth 100000 in
theorem idxWay_any (L : Int) (ws : List W6) (a : Option Addr) (n c g : Nat) (w : World) (hn : ws.length = n) (hm : n ≤ maxLen) (hL : WaysAt w a ws) (hk : w.cell? ⟨g, 0, none⟩ = some (.int .i64 L)) :
    Calls Try.prog 95 #[.slice a n c, .func (.func 96) #[] #[.pointer (some ⟨g, 0, none⟩)]] w (Ret (.int .i64 (findW L ws)) w) := by
  have HLL := Lib.hid hL
  have HNL := Lib.hid hn
  have hin : inB w g := lt_of_cell hk
  unfold maxLen at hm
  clear hL hn
  go_enter Try.func95, Try.ntmps95
  go_wp2
  go_loopw [8] (RelW L ws w) (fun i _ => n - (intOf i).toNat)
  case atStart => exact ⟨0, #[], _, Nat.zero_le _, rfl, later_zero _, fun i y hi => by omega⟩
  case round =>
    obtain ⟨j, l, d, hj, rfl, rfl, hall⟩ := hrel
    by_cases hlt : j < n
    · obtain ⟨x, hx⟩ := get_some (xs := ws) (k := j) (by rw [HNL.out]; exact hlt)
      obtain ⟨b, off, rfl⟩ := WaysAt.form HLL.out hx
      obtain ⟨e0, e1, e2, e3, e4, e5⟩ := WaysAt.at HLL.out hx
      have hin3 : inB w b := lt_of_cell e0
      have HALL := Lib.hid hall
      have HX := Lib.hid hx
      have HJ : Hid (j + 1 ≤ ws.length) := Lib.hid (by rw [HNL.out]; exact hlt)
      clear hall hx hj
      have PD := fun w h => findTest_any x g L w h
      by_cases hn : hasL L x = true
      · rw [hn] at PD
        have HD := Lib.hid PD
        have HI := Lib.hid (findW_at HX.out hn HALL.out)
        obtain ⟨xs, xl, xa, xb, xc, xd⟩ := x
        simp only at e0 e1 e2 e3 e4 e5
        clear hn PD
        go_wp2_with (go_at_call 96; refine (HD.out _ ?hc2).mono ?_; (case hc2 => go_simp); rintro e w1 ⟨rfl, hb1⟩; obtain ⟨l1, d1, rfl⟩ := later_of hb1; clear hb1)
        go_ret
        exact ⟨by rw [HI.out]; rfl, (by repeat (first | exact Below.refl _ _ | apply bs_later | apply bs_alloc | apply bs_drew | apply bs_drewN))⟩
      · have hn' : hasL L x = false := by simpa using hn
        rw [hn'] at PD
        have HD := Lib.hid PD
        have HNX := Lib.hid hn'
        obtain ⟨xs, xl, xa, xb, xc, xd⟩ := x
        simp only at e0 e1 e2 e3 e4 e5
        clear hn hn' PD
        go_wp2_with (go_at_call 96; refine (HD.out _ ?hc).mono ?_; (case hc => go_simp); rintro e w1 ⟨rfl, hb1⟩; obtain ⟨l1, d1, rfl⟩ := later_of hb1; clear hb1; rw [later_later])
        refine ⟨⟨j + 1, _, _, HJ.out, by go_num, rfl, fun i y hi hy => ?_⟩, by simp [intOf]; omega⟩
        by_cases hij : i < j
        · exact HALL.out i y hij hy
        · obtain rfl : i = j := by omega
          have e := HX.out.symm.trans hy
          injection e with e
          subst e
          exact HNX.out
    · obtain rfl : j = n := by have := HNL.out; omega
      have HI := Lib.hid (findW_none (L := L) (ws := ws) fun i y hi hy => hall i y (by rw [← HNL.out]; exact hi) hy)
      clear hall
      go_wp2
      go_ret
      exact ⟨by rw [HI.out]; rfl, (by repeat (first | exact Below.refl _ _ | apply bs_later | apply bs_alloc | apply bs_drew | apply bs_drewN))⟩
set_option maxHeartbeats 1000000 in
set_option maxRecDepth 100000 in
theorem find_any (L : Int) (ws : List W6) (a : Option Addr) (n c : Nat) (w : World) (hn : ws.length = n) (hm : n ≤ maxLen) (hL : WaysAt w a ws) :
    Calls Try.prog 79 #[.slice a n c, .int .i64 L] w (Ret (.int .i64 (findW L ws)) w) := by
  have HI := Lib.hid (fun g w h1 h2 => idxWay_any L ws a n c g w hn hm h1 h2)
  have HLL := Lib.hid hL
  clear hL hn
  go_enter Try.func79, Try.ntmps79
  go_wp2_with (go_at_call 95; refine (HI.out _ _ (WaysAt.below HLL.out (by repeat (first | exact Below.refl _ _ | apply bs_later | apply bs_alloc | apply bs_drew | apply bs_drewN))) ?hc).mono ?_; (case hc => go_simp); rintro e w1 ⟨rfl, hb1⟩; obtain ⟨l1, d1, rfl⟩ := later_of hb1; clear hb1)
  go_ret
  exact ⟨rfl, (by repeat (first | exact Below.refl _ _ | apply bs_later | apply bs_alloc | apply bs_drew | apply bs_drewN))⟩
end Go.Proofs.Ytffhfpdmfegcpac.ways
