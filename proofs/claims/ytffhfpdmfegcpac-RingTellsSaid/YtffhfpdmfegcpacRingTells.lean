/- ringdovelaw.RingTells: what its calls answer, case by case. -/
import Derived.Test.YtffhfpdmfegcpacRefStep
import Derived.Test.YtffhfpdmfegcpacRingLaws
import Derived.Test.YtffhfpdmfegcpacRingNew
import Derived.Test.YtffhfpdmfegcpacSameRing
import Derived.Test.YtffhfpdmfegcpacEqInt
namespace Go.Proofs.Ytffhfpdmfegcpac.ringTells
open Go.ChangeShapes Go.WideShapes Go.ChangeAt Go.RowKit
open Go.ChangeMaps (open_string shut_string)
open Go.Proofs.Ytffhfpdmfegcpac.base Go.Proofs.Ytffhfpdmfegcpac.knob Go.Proofs.Ytffhfpdmfegcpac.flat Go.Proofs.Ytffhfpdmfegcpac.table Go.Proofs.Ytffhfpdmfegcpac.addr Go.Proofs.Ytffhfpdmfegcpac.slot
set_option linter.unusedVariables false
set_option linter.unusedSimpArgs false

theorem ints_below {k : IntKind} {w w' : World} {a : Option Addr} {xs : List Int} (h : IntsAt k w a xs) (hb : Below w.heap.size w w') : IntsAt k w' a xs := by
  rcases h with h | ⟨b, off, h1, h2⟩
  · exact .inl h
  · refine .inr ⟨b, off, h1, fun i x hx => ?_⟩
    have hc := h2 i x hx
    rw [hb.cell (p := ⟨b, off + i, none⟩) (lt_of_cell hc)]
    exact hc
theorem wf_small {x : Int} (h1 : 0 ≤ x) (h2 : x < 100) : (Lit.int .i64 x).wf = true := by
  obtain ⟨n, rfl⟩ := Int.eq_ofNat_of_zero_le h1
  have h3 : n < 100 := by omega
  clear h1 h2
  revert n
  decide
theorem ok_of {cn : Int} {xs : List S4} (h : RingOK cn xs) (h8 : cn ≤ 8) : ∀ x ∈ xs, x.Ok := fun x hx => by
  obtain ⟨h1, h2, h3⟩ := h.inn x hx
  exact ⟨wf_small h1.1 (by omega), wf_small h2.1 (by omega), wf_small h3.1 (by omega)⟩
theorem newL_ok {cn : Int} {n : Nat} (h2 : 2 ≤ cn) (h8 : cn ≤ 8) : ∀ x ∈ newL cn n n, x.Ok := by
  intro x hx
  unfold newL at hx
  obtain ⟨i, hi, rfl⟩ := List.mem_map.1 hx
  have hi := List.mem_range.1 hi
  rw [if_pos hi]
  have h1 : 0 ≤ (i : Int) % cn := Int.emod_nonneg _ (by omega)
  have h3 : (i : Int) % cn < cn := Int.emod_lt_of_pos _ (by omega)
  refine ⟨?_, rfl, rfl⟩
  show (Lit.int .i64 ((i : Int) % cn)).wf = true
  exact wf_small h1 (by omega)
def RelW (cn : Int) (n : Nat) (W0 : World) (v i : Value) (wr : World) : Prop :=
  ∃ (k : Nat) (l : Array Obj) (d : Nat), k ≤ n ∧ i = .int .i64 k ∧ wr = W0.later l d ∧ (W0.later l d).ownsRow W0.heap.size 85 4 v k (cellsS ((newL cn n n).take k))

theorem newE4 {cn cs cy cb slots : Int} (h : ¬ CfgOK cn cs cy cb ∨ slots < 1 ∨ 8 < slots) : newE cn cs cy cb slots = 4 := by
  unfold newE
  by_cases hc : CfgOK cn cs cy cb
  · rw [if_pos (cfgE_ok hc), if_pos (by rcases h with h | h; exact absurd hc h; exact h)]
  · rw [if_neg (by rw [cfgE_bad hc]; decide), cfgE_bad hc]
theorem new_bad {cn cs cy cb slots : Int} (h : ¬ CfgOK cn cs cy cb ∨ slots < 1 ∨ 8 < slots) (w : World) : Calls Try.prog 24 #[.agg #[.int .i64 cn, .int .i64 cs, .int .i64 cy, .int .i64 cb], .int .i64 slots] w (Ret (.tuple #[.slice none 0 0, .int .i64 4]) w) :=
  (ringNew_any cn cs cy cb slots w).mono fun e w' h' => by
    obtain ⟨hb, ⟨h0, -⟩ | ⟨h0, rfl⟩⟩ := h'
    · rw [newE4 h] at h0; cases h0
    · exact ⟨by rw [newE4 h], hb⟩
theorem long_bad {cn cs cy cb slots : Int} (h : ¬ CfgOK cn cs cy cb ∨ slots < 1 ∨ 8 < slots) (w : World) : Calls Try.prog 27 #[.agg #[.int .i64 cn, .int .i64 cs, .int .i64 cy, .int .i64 cb], .int .i64 slots] w (Ret (.tuple #[.int .i64 0, .int .i64 4]) w) :=
  (longest_any cn cs cy cb slots w).mono fun e w' h' => by
    obtain ⟨hb, ⟨h0, -⟩ | ⟨h0, rfl⟩⟩ := h'
    · rw [newE4 h] at h0; cases h0
    · exact ⟨by rw [newE4 h], hb⟩
theorem newE0 {cn cs cy cb : Int} {n : Nat} (hc : CfgOK cn cs cy cb) (h : 1 ≤ n ∧ n ≤ 8) : newE cn cs cy cb n = 0 := by
  unfold newE; rw [if_pos (cfgE_ok hc), if_neg (by omega)]
theorem new_ok {cn cs cy cb : Int} {n : Nat} (hc : CfgOK cn cs cy cb) (h : 1 ≤ n ∧ n ≤ 8) (w : World) : Calls Try.prog 24 #[.agg #[.int .i64 cn, .int .i64 cs, .int .i64 cy, .int .i64 cb], .int .i64 n] w fun e w' => ∃ a, e = .returned (.tuple #[.slice a n n, .int .i64 0]) ∧ SlotsAt w' a (newL cn n n) ∧ Below w.heap.size w w' :=
  (ringNew_any cn cs cy cb n w).mono fun e w' h' => by
    obtain ⟨hb, ⟨h0, g, m, hm, rfl, hs⟩ | ⟨h0, -⟩⟩ := h'
    · obtain rfl : n = m := by omega
      exact ⟨_, rfl, hs, hb⟩
    · exact absurd (newE0 hc h) h0
theorem long_ok {cn cs cy cb : Int} {n : Nat} (hc : CfgOK cn cs cy cb) (h : 1 ≤ n ∧ n ≤ 8) (w : World) : Calls Try.prog 27 #[.agg #[.int .i64 cn, .int .i64 cs, .int .i64 cy, .int .i64 cb], .int .i64 n] w (Ret (.tuple #[.int .i64 (cn + 9), .int .i64 0]) w) :=
  (longest_any cn cs cy cb n w).mono fun e w' h' => by
    obtain ⟨hb, ⟨h0, rfl⟩ | ⟨h0, -⟩⟩ := h'
    · exact ⟨rfl, hb⟩
    · exact absurd (newE0 hc h) h0
section
variable {cn cs cy cb node wait : Int} {ss : List S4} {a : Option Addr} {n c : Nat}
theorem put_e {E : Int} (hE : putE cn cs cy cb node wait ss = E) (h0 : ¬ E = 0) (hnc : n ≤ c) (hcm : c ≤ maxLen) (hd : ss.length = n) (w : World) (h : SlotsAt w a ss) :
    Calls Try.prog 25 #[.agg #[.int .i64 cn, .int .i64 cs, .int .i64 cy, .int .i64 cb], .slice a n c, .int .i64 node, .int .i64 wait] w (Ret (.tuple #[.slice none 0 0, .bool false, .int .i64 E]) w) :=
  (put_any cn cs cy cb node wait ss a n c w hnc hcm hd h).mono fun e w' h' => by
    obtain ⟨hb, ⟨hz, -⟩ | ⟨-, rfl⟩⟩ := h'
    · rw [hE] at hz; exact absurd hz h0
    · exact ⟨by rw [hE], hb⟩
theorem put_z (hE : putE cn cs cy cb node wait ss = 0) (hnc : n ≤ c) (hcm : c ≤ maxLen) (hd : ss.length = n) (w : World) (h : SlotsAt w a ss) :
    Calls Try.prog 25 #[.agg #[.int .i64 cn, .int .i64 cs, .int .i64 cy, .int .i64 cb], .slice a n c, .int .i64 node, .int .i64 wait] w fun e w' => ∃ a2 c2, e = .returned (.tuple #[.slice a2 n c2, .bool (putB node ss), .int .i64 0]) ∧ SlotsAt w' a2 (putL node wait ss) ∧ Below w.heap.size w w' :=
  (put_any cn cs cy cb node wait ss a n c w hnc hcm hd h).mono fun e w' h' => by
    obtain ⟨hb, ⟨-, a2, c2, rfl, h1, h2, hs⟩ | ⟨hz, -⟩⟩ := h'
    · exact ⟨a2, c2, by rw [hd], hs, hb⟩
    · exact absurd hE hz
theorem step_e {E : Int} (hE : ringE cn cs cy cb ss = E) (h0 : ¬ E = 0) (hnc : n ≤ c) (hcm : c ≤ maxLen) (hd : ss.length = n) (w : World) (h : SlotsAt w a ss) :
    Calls Try.prog 26 #[.agg #[.int .i64 cn, .int .i64 cs, .int .i64 cy, .int .i64 cb], .slice a n c] w (Ret (.tuple #[.slice none 0 0, .slice none 0 0, .int .i64 E]) w) :=
  (step_any cn cs cy cb ss a n c w hnc hcm hd h).mono fun e w' h' => by
    obtain ⟨hb, ⟨hz, -⟩ | ⟨-, rfl⟩⟩ := h'
    · rw [hE] at hz; exact absurd hz h0
    · exact ⟨by rw [hE], hb⟩
theorem told_len (hE : ringE cn cs cy cb ss = 0) : (toldL cn ss).length = (ascL (toldL cn ss)).length := by
  have hlen := ringE_len hE
  rw [← told_asc hlen.2.2.1.2.1 (ringOK_iff.1 hlen.2.2.2)]; exact (List.length_mergeSort _).symm
theorem step_z (hE : ringE cn cs cy cb ss = 0) (hnc : n ≤ c) (hcm : c ≤ maxLen) (hd : ss.length = n) (w : World) (h : SlotsAt w a ss) :
    Calls Try.prog 26 #[.agg #[.int .i64 cn, .int .i64 cs, .int .i64 cy, .int .i64 cb], .slice a n c] w fun e w' => ∃ a2 c2 a3 c3, e = .returned (.tuple #[.slice a2 n c2, .slice a3 (ascL (toldL cn ss)).length c3, .int .i64 0]) ∧ SlotsAt w' a2 (stepL cn ss) ∧ IntsAt .i64 w' a3 (ascL (toldL cn ss)) ∧ Below w.heap.size w w' :=
  (step_any cn cs cy cb ss a n c w hnc hcm hd h).mono fun e w' h' => by
    obtain ⟨hb, ⟨-, a2, c2, a3, c3, rfl, h1, h2, h3, h4, hs, ht⟩ | ⟨hz, -⟩⟩ := h'
    · have hlen := ringE_len hE
      refine ⟨a2, c2, a3, c3, by rw [hd, told_len hE], hs, ?_, hb⟩
      rw [← told_asc hlen.2.2.1.2.1 (ringOK_iff.1 hlen.2.2.2)]
      exact ht
    · exact absurd hE hz
end
end Go.Proofs.Ytffhfpdmfegcpac.ringTells
