/- More of slices of plain structs that came in: they stay as they are. No function of the program is mentioned. -/
import Derived.Test.YtffhfpdmfegcpacTable
namespace Go.Proofs.Ytffhfpdmfegcpac.table
open Go.ChangeShapes Go.WideShapes Go.ChangeAt Go.RowKit
open Go.Proofs.Ytffhfpdmfegcpac.base Go.Proofs.Ytffhfpdmfegcpac.flat
set_option linter.unusedVariables false
set_option linter.unusedSimpArgs false

theorem lt_of_cell {w : World} {b i : Nat} {v : Value} (h : w.cell? ⟨b, i, none⟩ = some v) : b < w.heap.size := by
  rcases Nat.lt_or_ge b w.heap.size with h1 | h1
  · exact h1
  · simp [World.cell?, Array.getElem?_eq_none h1] at h
theorem RowsAt.below {n : Nat} {w w' : World} {a : Option Addr} {rs : List (List Value)} (h : RowsAt n w a rs) (hb : Below w.heap.size w w') : RowsAt n w' a rs := by
  rcases h with h | ⟨b, off, h1, h2⟩
  · exact .inl h
  · refine .inr ⟨b, off, h1, fun i r hr => ⟨(h2 i r hr).1, fun j v hv => ?_⟩⟩
    have h3 := (h2 i r hr).2 j v hv
    rw [hb.cell (p := ⟨b, _, none⟩) (lt_of_cell h3)]
    exact h3
theorem DeedsAt.below {w w' : World} {a : Option Addr} {xs : List D4} (h : DeedsAt w a xs) (hb : Below w.heap.size w w') : DeedsAt w' a xs := RowsAt.below h hb
theorem RowsAt.at {n : Nat} {w : World} {b off : Nat} {rs : List (List Value)} (h : RowsAt n w (some ⟨b, off, none⟩) rs) {i : Nat} {r : List Value} (hr : rs[i]? = some r) {j : Nat} {v : Value} (hv : r[j]? = some v) : w.cell? ⟨b, off + i * n + j, none⟩ = some v := by
  rcases h with rfl | ⟨b', off', h1, h2⟩
  · cases hr
  · injection h1 with h1
    injection h1 with h3 h4
    subst h3; subst h4
    exact (h2 i r hr).2 j v hv
theorem RowsAt.form {n : Nat} {w : World} {a : Option Addr} {rs : List (List Value)} (h : RowsAt n w a rs) {i : Nat} {r : List Value} (hr : rs[i]? = some r) : ∃ b off, a = some ⟨b, off, none⟩ := by
  rcases h with rfl | ⟨b, off, h1, _⟩
  · cases hr
  · exact ⟨b, off, h1⟩
theorem _root_.Go.Proofs.Ytffhfpdmfegcpac.base.IntsAt.below {k : IntKind} {w w' : World} {a : Option Addr} {xs : List Int} (h : IntsAt k w a xs) (hb : Below w.heap.size w w') : IntsAt k w' a xs := by
  rcases h with h | ⟨b, off, h1, h2⟩
  · exact .inl h
  · refine .inr ⟨b, off, h1, fun i x hx => ?_⟩
    have h3 := h2 i x hx
    rw [hb.cell (p := ⟨b, _, none⟩) (lt_of_cell h3)]
    exact h3
end Go.Proofs.Ytffhfpdmfegcpac.table
