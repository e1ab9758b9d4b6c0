/- The contracts of the test in cache.Check, and of slices.IndexFunc and slices.ContainsFunc with it. -/
import Derived.Test.YtffhfpdmfegcpacRowFind
namespace Go.Proofs.Ytffhfpdmfegcpac.ways
open Go.ChangeShapes Go.WideShapes Go.ChangeAt Go.RowKit
open Go.Proofs.Ytffhfpdmfegcpac.base Go.Proofs.Ytffhfpdmfegcpac.flat Go.Proofs.Ytffhfpdmfegcpac.table Go.Proofs.Ytffhfpdmfegcpac.prog Go.Proofs.Ytffhfpdmfegcpac.same
set_option linter.unusedVariables false
set_option linter.unusedSimpArgs false

/-- does a way stand in another set than its line's? -/
def oddS (cs i : Int) (x : W6) : Bool := decide (¬ x.s = 0 ∧ ¬ x.l % cs = i)
/-- where the first such way is; -1 -/
def idxP (q : W6 → Bool) (ws : List W6) : Int := match ws.findIdx? q with | some i => (i : Int) | none => -1
theorem idxP_at {q : W6 → Bool} {ws : List W6} {i : Nat} {x : W6} (hx : ws[i]? = some x) (hn : q x = true) (h : ∀ (j : Nat) (y : W6), j < i → ws[j]? = some y → q y = false) : idxP q ws = i := by
  have : ws.findIdx? q = some i := by
    rw [List.findIdx?_eq_some_iff_getElem]
    obtain ⟨hi, he⟩ := List.getElem?_eq_some_iff.1 hx
    refine ⟨hi, by rw [he]; exact hn, fun j hj => ?_⟩
    have := h j ws[j] hj (List.getElem?_eq_getElem (by omega))
    rw [this]; decide
  unfold idxP; rw [this]
theorem idxP_none {q : W6 → Bool} {ws : List W6} (h : ∀ (j : Nat) (y : W6), j < ws.length → ws[j]? = some y → q y = false) : idxP q ws = -1 := by
  have : ws.findIdx? q = none := by
    rw [List.findIdx?_eq_none_iff]
    intro x hx
    obtain ⟨j, hj⟩ := List.getElem?_of_mem hx
    exact h j x (List.getElem?_eq_some_iff.1 hj).1 hj
  unfold idxP; rw [this]
theorem idxP_neg {q : W6 → Bool} {ws : List W6} : idxP q ws < 0 ↔ ∀ x ∈ ws, q x = false := by
  unfold idxP
  cases h : ws.findIdx? q with
  | none => rw [List.findIdx?_eq_none_iff] at h; exact ⟨fun _ => h, fun _ => by decide⟩
  | some p =>
    rw [List.findIdx?_eq_some_iff_getElem] at h
    obtain ⟨hp, h1, _⟩ := h
    refine ⟨fun h => absurd h (by simp only; omega), fun h => ?_⟩
    have := h ws[p] (List.getElem_mem hp)
    rw [this] at h1; cases h1

set_option maxHeartbeats 1000000 in
set_option maxRecDepth 100000 in
theorem oddTest_any (x : W6) (hl : 0 ≤ x.l ∧ x.l ≤ 15) (g h : Nat) (cs i : Int) (hcs : 1 ≤ cs ∧ cs ≤ 4) (w : World) (hk : w.cell? ⟨g, 1, none⟩ = some (.int .i64 cs)) (hi : w.cell? ⟨h, 0, none⟩ = some (.int .i64 i)) :
    Calls Try.prog 91 #[.agg #[.int .i64 x.s, .int .i64 x.l, .int .u64 x.a, .int .u64 x.b, .int .u64 x.c, .int .u64 x.d], .pointer (some ⟨g, 0, none⟩), .pointer (some ⟨h, 0, none⟩)] w (Ret (.bool (oddS cs i x)) w) := by
  have hin : inB w g := lt_of_cell hk
  have hin2 : inB w h := lt_of_cell hi
  obtain ⟨c1, c4⟩ := hcs
  by_cases h0 : x.s = 0
  · have HV : Hid (oddS cs i x = false) := Lib.hid (decide_eq_false fun h => h.1 h0)
    have h1 : (x.s != 0) = false := by simpa using h0
    obtain ⟨xs, xl, xa, xb, xc, xd⟩ := x
    simp only at h0 h1 hl
    rw [HV.out]
    obtain ⟨hl0, hl15⟩ := hl
    clear h0
    go_enter Try.func91, Try.ntmps91
    go_wp2
    go_quiet (fail)
    all_goals go_wp2
    all_goals go_ret
    all_goals exact ⟨rfl, (by repeat (first | exact Below.refl _ _ | apply bs_later | apply bs_alloc | apply bs_drew | apply bs_drewN))⟩
  · have HV : Hid (oddS cs i x = (x.l % cs != i)) := Lib.hid (by unfold oddS; by_cases h : x.l % cs = i <;> simp [h, h0])
    have h1 : (x.s != 0) = true := by simpa using h0
    obtain ⟨xs, xl, xa, xb, xc, xd⟩ := x
    simp only at h0 h1 hl HV
    rw [HV.out]
    obtain ⟨hl0, hl15⟩ := hl
    have hm : xl.tmod cs = xl % cs := Int.tmod_eq_emod_of_nonneg hl0
    have hc0 : (cs == 0) = false := by simp; omega
    clear h0
    go_enter Try.func91, Try.ntmps91
    go_wp2
    go_quiet (fail)
    all_goals go_wp2
    all_goals go_ret
    all_goals exact ⟨rfl, (by repeat (first | exact Below.refl _ _ | apply bs_later | apply bs_alloc | apply bs_drew | apply bs_drewN))⟩
def RelO (q : W6 → Bool) (ws : List W6) (w0 : World) (i : Value) (wr : World) : Prop :=
  ∃ (j : Nat) (l : Array Obj) (d : Nat), j ≤ ws.length ∧ i = .int .i64 j ∧ wr = w0.later l d ∧ ∀ (i : Nat) (y : W6), i < j → ws[i]? = some y → q y = false
set_option maxHeartbeats 1000000 in
set_option maxRecDepth 100000 in
theorem idxOdd_any (cs i : Int) (hcs : 1 ≤ cs ∧ cs ≤ 4) (ws : List W6) (hws : ∀ x ∈ ws, 0 ≤ x.l ∧ x.l ≤ 15) (a : Option Addr) (n c g h : Nat) (w : World) (hn : ws.length = n) (hm : n ≤ maxLen) (hL : WaysAt w a ws) (hk : w.cell? ⟨g, 1, none⟩ = some (.int .i64 cs)) (hi : w.cell? ⟨h, 0, none⟩ = some (.int .i64 i)) :
    Calls Try.prog 95 #[.slice a n c, .func (.func 91) #[] #[.pointer (some ⟨g, 0, none⟩), .pointer (some ⟨h, 0, none⟩)]] w (Ret (.int .i64 (idxP (oddS cs i) ws)) w) := by
  have HLL := Lib.hid hL
  have HNL := Lib.hid hn
  have HWS := Lib.hid hws
  have hin : inB w g := lt_of_cell hk
  have hin2 : inB w h := lt_of_cell hi
  unfold maxLen at hm
  clear hL hn hws
  go_enter Try.func95, Try.ntmps95
  go_wp2
  go_loopw [8] (RelO (oddS cs i) ws w) (fun i _ => n - (intOf i).toNat)
  case atStart => exact ⟨0, #[], _, Nat.zero_le _, rfl, later_zero _, fun i y hi => by omega⟩
  case round =>
    obtain ⟨j, l, d, hj, rfl, rfl, hall⟩ := hrel
    by_cases hlt : j < n
    · obtain ⟨x, hx⟩ := get_some (xs := ws) (k := j) (by rw [HNL.out]; exact hlt)
      obtain ⟨b, off, rfl⟩ := WaysAt.form HLL.out hx
      obtain ⟨e0, e1, e2, e3, e4, e5⟩ := WaysAt.at HLL.out hx
      have hin3 : inB w b := lt_of_cell e0
      have HALL := Lib.hid hall
      have HX := Lib.hid hx
      have HJ : Hid (j + 1 ≤ ws.length) := Lib.hid (by rw [HNL.out]; exact hlt)
      have PD := fun w h1 h2 => oddTest_any x (HWS.out x (List.mem_of_getElem? hx)) g h cs i hcs w h1 h2
      clear hall hx hj
      by_cases hn : oddS cs i x = true
      · rw [hn] at PD
        have HD := Lib.hid PD
        have HI := Lib.hid (idxP_at HX.out hn HALL.out)
        obtain ⟨xs, xl, xa, xb, xc, xd⟩ := x
        simp only at e0 e1 e2 e3 e4 e5
        clear hn PD
        go_wp2_with (go_at_call 91; refine (HD.out _ ?hc2 ?hd2).mono ?_; (case hc2 => go_simp); (case hd2 => go_simp); rintro e w1 ⟨rfl, hb1⟩; obtain ⟨l1, d1, rfl⟩ := later_of hb1; clear hb1)
        go_ret
        exact ⟨by rw [HI.out]; rfl, (by repeat (first | exact Below.refl _ _ | apply bs_later | apply bs_alloc | apply bs_drew | apply bs_drewN))⟩
      · have hn' : oddS cs i x = false := by simpa using hn
        rw [hn'] at PD
        have HD := Lib.hid PD
        have HNX := Lib.hid hn'
        obtain ⟨xs, xl, xa, xb, xc, xd⟩ := x
        simp only at e0 e1 e2 e3 e4 e5
        clear hn hn' PD
        go_wp2_with (go_at_call 91; refine (HD.out _ ?hc ?hd).mono ?_; (case hc => go_simp); (case hd => go_simp); rintro e w1 ⟨rfl, hb1⟩; obtain ⟨l1, d1, rfl⟩ := later_of hb1; clear hb1; rw [later_later])
        refine ⟨⟨j + 1, _, _, HJ.out, by go_num, rfl, fun i y hi hy => ?_⟩, by simp [intOf]; omega⟩
        by_cases hij : i < j
        · exact HALL.out i y hij hy
        · obtain rfl : i = j := by omega
          have e := HX.out.symm.trans hy
          injection e with e
          subst e
          exact HNX.out
    · obtain rfl : j = n := by have := HNL.out; omega
      have HI := Lib.hid (idxP_none (q := oddS cs i) (ws := ws) fun i y hi hy => hall i y (by rw [← HNL.out]; exact hi) hy)
      clear hall
      go_wp2
      go_ret
      exact ⟨by rw [HI.out]; rfl, (by repeat (first | exact Below.refl _ _ | apply bs_later | apply bs_alloc | apply bs_drew | apply bs_drewN))⟩
set_option maxRecDepth 100000 in
/-- ContainsFunc, by IndexFunc at the same function value -/
theorem containsOdd_any (cs i : Int) (hcs : 1 ≤ cs ∧ cs ≤ 4) (ws : List W6) (hws : ∀ x ∈ ws, 0 ≤ x.l ∧ x.l ≤ 15) (a : Option Addr) (n c g h : Nat) (w : World) (hn : ws.length = n) (hm : n ≤ maxLen) (hL : WaysAt w a ws) (hk : w.cell? ⟨g, 1, none⟩ = some (.int .i64 cs)) (hi : w.cell? ⟨h, 0, none⟩ = some (.int .i64 i)) :
    Calls Try.prog 90 #[.slice a n c, .func (.func 91) #[] #[.pointer (some ⟨g, 0, none⟩), .pointer (some ⟨h, 0, none⟩)]] w (Ret (.bool (decide (0 ≤ idxP (oddS cs i) ws))) w) := by
  have HI := Lib.hid (idxOdd_any cs i hcs ws hws a n c g h w hn hm hL hk hi)
  clear hL hk hi hn hws
  generalize idxP (oddS cs i) ws = v at *
  go_enter Try.func90, Try.ntmps90
  go_wp2_with (go_at_call 95; refine HI.out.mono ?_; rintro e w1 ⟨rfl, hb1⟩; obtain ⟨l1, d1, rfl⟩ := later_of hb1; clear hb1)
  go_ret
  exact ⟨rfl, (by repeat (first | exact Below.refl _ _ | apply bs_later | apply bs_alloc | apply bs_drew | apply bs_drewN))⟩
end Go.Proofs.Ytffhfpdmfegcpac.ways
