/- A ring's own row: a whole slot stored; what a right ring's number of slots is (for a seat without ring.Put). -/
import Derived.Test.YtffhfpdmfegcpaaRingCheck
import Derived.Test.YtffhfpdmfegcpaaSlotRow
namespace Go.Proofs.Ytffhfpdmfegcpaa.slot
open Go.ChangeShapes Go.WideShapes Go.ChangeAt Go.RowKit
open Go.Proofs.Ytffhfpdmfegcpaa.base Go.Proofs.Ytffhfpdmfegcpaa.flat Go.Proofs.Ytffhfpdmfegcpaa.table Go.Proofs.Ytffhfpdmfegcpaa.addr
set_option linter.unusedVariables false
set_option linter.unusedSimpArgs false

theorem own_caps {w : World} {base n c size : Nat} {e : TypeId} {a : Option Addr} {xs : List Value} (h : w.ownsRow base e size (.slice a n c) n xs) : n ≤ c ∧ c ≤ maxLen := by
  rcases h.2 with ⟨h1, h2⟩ | ⟨g, cap, cur, hv, _, _, h3, h4, _⟩
  · cases h1; cases h2; exact ⟨Nat.le_refl _, by unfold maxLen; omega⟩
  · injection hv with _ _ h5; subst h5; exact ⟨h3, h4⟩
theorem own_head {w : World} {base n size : Nat} {e : TypeId} {v : Value} {xs : List Value} (hn : 0 < n) (h : w.ownsRow base e size v n xs) : ∃ g c, v = .slice (some ⟨g, 0, none⟩) n c ∧ base ≤ g := by
  rcases h.2 with ⟨h1, h2⟩ | ⟨g, cap, cur, hv, hb, _⟩
  · omega
  · exact ⟨g, cap, hv, hb⟩
/-- a whole slot stored into a row of the call's own, cell by cell -/
theorem own_slot {W : World} {l : Array Obj} {d base g n cap : Nat} {e : TypeId} {xs : List S4} (h : (W.later l d).ownsRow base e 4 (.slice (some ⟨g, 0, none⟩) n cap) n (cellsS xs)) (hd : xs.length = n) (hb : W.heap.size ≤ base) (hg : base ≤ g) {k : Nat} {x : S4} (hx : xs[k]? = some x) (y : S4) :
    ∃ l1 d1 l2 d2 l3 d3 l4 d4, (W.later l d).setCell ⟨g, k * 4, none⟩ (.int .i64 y.at_) = W.later l1 d1 ∧ l1.size = l.size ∧ farB W l1 g ∧ (W.later l1 d1).cell? ⟨g, k * 4 + 1, none⟩ = some (.bool x.full) ∧ (W.later l1 d1).frozen? ⟨g, k * 4 + 1, none⟩ = false
      ∧ (W.later l1 d1).setCell ⟨g, k * 4 + 1, none⟩ (.bool y.full) = W.later l2 d2 ∧ l2.size = l.size ∧ farB W l2 g ∧ (W.later l2 d2).cell? ⟨g, k * 4 + 2, none⟩ = some (.int .i64 x.by_) ∧ (W.later l2 d2).frozen? ⟨g, k * 4 + 2, none⟩ = false
      ∧ (W.later l2 d2).setCell ⟨g, k * 4 + 2, none⟩ (.int .i64 y.by_) = W.later l3 d3 ∧ l3.size = l.size ∧ farB W l3 g ∧ (W.later l3 d3).cell? ⟨g, k * 4 + 3, none⟩ = some (.int .i64 x.wait) ∧ (W.later l3 d3).frozen? ⟨g, k * 4 + 3, none⟩ = false
      ∧ (W.later l3 d3).setCell ⟨g, k * 4 + 3, none⟩ (.int .i64 y.wait) = W.later l4 d4 ∧ l4.size = l.size
      ∧ (W.later l4 d4).ownsRow base e 4 (.slice (some ⟨g, 0, none⟩) n cap) n (cellsS (xs.set k y)) := by
  have hk := (List.getElem?_eq_some_iff.1 hx).1
  obtain ⟨xa, xf, xb, xw⟩ := x
  have far : ∀ {l' : Array Obj} {d' : Nat}, (W.later l' d').ownsRow base e 4 (.slice (some ⟨g, 0, none⟩) n cap) n (cellsS xs) ∨ l'.size = l.size → farB W l' g := by
    intro l' d' h'
    have h0 := (own_block h).2
    rcases h' with h' | h'
    · have := (own_block h').2; simpa [farB] using this
    · simp only [size_later] at h0; unfold farB; omega
  obtain ⟨l1, d1, e1, s1, h1⟩ := own_store h hb hg (k * 4) (.int .i64 y.at_)
  rw [show k * 4 = k * 4 + 0 by omega, cellsS_set xs k 0 _ ⟨y.at_, xf, xb, xw⟩ _ hx (by omega) rfl] at h1
  obtain ⟨l2, d2, e2, s2, h2⟩ := own_store h1 hb hg (k * 4 + 1) (.bool y.full)
  rw [cellsS_set (xs.set k ⟨y.at_, xf, xb, xw⟩) k 1 ⟨y.at_, xf, xb, xw⟩ ⟨y.at_, y.full, xb, xw⟩ _ (List.getElem?_set_self hk) (by omega) rfl, List.set_set] at h2
  obtain ⟨l3, d3, e3, s3, h3⟩ := own_store h2 hb hg (k * 4 + 2) (.int .i64 y.by_)
  rw [cellsS_set (xs.set k ⟨y.at_, y.full, xb, xw⟩) k 2 ⟨y.at_, y.full, xb, xw⟩ ⟨y.at_, y.full, y.by_, xw⟩ _ (List.getElem?_set_self hk) (by omega) rfl, List.set_set] at h3
  obtain ⟨l4, d4, e4, s4, h4⟩ := own_store h3 hb hg (k * 4 + 3) (.int .i64 y.wait)
  rw [cellsS_set (xs.set k ⟨y.at_, y.full, y.by_, xw⟩) k 3 ⟨y.at_, y.full, y.by_, xw⟩ ⟨y.at_, y.full, y.by_, y.wait⟩ _ (List.getElem?_set_self hk) (by omega) rfl, List.set_set] at h4
  refine ⟨l1, d1, l2, d2, l3, d3, l4, d4, e1, s1, far (.inr s1) (d' := 0), ?_, h1.frozenAt _, e2, by omega, far (.inr (by omega)) (d' := 0), ?_, h2.frozenAt _, e3, by omega, far (.inr (by omega)) (d' := 0), ?_, h3.frozenAt _, e4, by omega, h4⟩
  · rw [h1.cellAt _ (by omega), cellsS_get _ k 1 _ (List.getElem?_set_self hk) (by omega)]; rfl
  · rw [h2.cellAt _ (by omega), cellsS_get _ k 2 _ (List.getElem?_set_self hk) (by omega)]; rfl
  · rw [h3.cellAt _ (by omega), cellsS_get _ k 3 _ (List.getElem?_set_self hk) (by omega)]; rfl

theorem ringE_len {cn cs cy cb : Int} {ss : List S4} (h : ringE cn cs cy cb ss = 0) : 1 ≤ ss.length ∧ ss.length ≤ 8 ∧ CfgOK cn cs cy cb ∧ ringL cn [] ss = 0 := by
  unfold ringE at h
  by_cases hc : CfgOK cn cs cy cb
  · rw [if_pos (cfgE_ok hc)] at h
    by_cases hl : ss.length < 1 ∨ 8 < ss.length
    · rw [if_pos hl] at h; cases h
    · rw [if_neg hl] at h; exact ⟨by omega, by omega, hc, h⟩
  · rw [cfgE_bad hc] at h; simp at h

end Go.Proofs.Ytffhfpdmfegcpaa.slot
