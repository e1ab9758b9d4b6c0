/- Deeds in two goes, in plain Lean; parts of a slice of plain structs. No function of the program is mentioned. -/
import Derived.Test.YtffhfpdmfegcpabPlayAny
import Derived.Test.YtffhfpdmfegcpabTable2
namespace Go.Proofs.Ytffhfpdmfegcpab.play
open Go.ChangeShapes Go.WideShapes Go.ChangeAt Go.RowKit
open Go.Proofs.Ytffhfpdmfegcpab.base Go.Proofs.Ytffhfpdmfegcpab.flat Go.Proofs.Ytffhfpdmfegcpab.same Go.Proofs.Ytffhfpdmfegcpab.addr Go.Proofs.Ytffhfpdmfegcpab.bank Go.Proofs.Ytffhfpdmfegcpab.atomic Go.Proofs.Ytffhfpdmfegcpab.table
set_option linter.unusedVariables false
set_option linter.unusedSimpArgs false

theorem playM_append (xs : List Int) (l l' : List D4) : playM xs (l ++ l') = playM (playM xs l) l' := by simp [playM, List.foldl_append]
theorem playV_append (xs : List Int) (l l' : List D4) : playV xs (l ++ l') = playV xs l ++ playV (playM xs l) l' := by
  induction l generalizing xs with
  | nil => rfl
  | cons x l ih =>
    show plainV xs x.k x.a :: playV _ (l ++ l') = _
    rw [ih]; rfl
theorem playE_cut {ds : List D4} (h : playE ds = 0) (k : Nat) : ds.length ≤ 200 ∧ playE (ds.take k) = 0 ∧ playE (ds.drop k) = 0 := by
  unfold playE at h
  by_cases h2 : 200 < ds.length
  · rw [if_pos h2] at h; omega
  · rw [if_neg h2] at h
    have h3 := h
    rw [← List.take_append_drop k ds, firstBad_append] at h3
    have h4 : firstBad (ds.take k) = 0 := by
      by_cases h5 : firstBad (ds.take k) = 0
      · exact h5
      · rw [if_neg h5] at h3; exact h3
    rw [if_pos h4] at h3
    refine ⟨by omega, ?_, ?_⟩
    · unfold playE; rw [if_neg (by rw [List.length_take]; omega)]; exact h4
    · unfold playE; rw [if_neg (by rw [List.length_drop]; omega)]; exact h3
theorem cut_law (xs : List Int) {ds : List D4} (h : playE ds = 0) (k : Nat) :
    outM (outM xs (ds.take k)) (ds.drop k) = outM xs ds ∧ outV xs (ds.take k) ++ outV (outM xs (ds.take k)) (ds.drop k) = outV xs ds := by
  obtain ⟨_, h1, h2⟩ := playE_cut h k
  unfold outM outV
  simp only [h, h1, h2, if_true]
  rw [← playM_append, ← playV_append, List.take_append_drop]
  exact ⟨rfl, rfl⟩
theorem DeedsAt.take {w : World} {a : Option Addr} {ds : List D4} (h : DeedsAt w a ds) (k : Nat) : DeedsAt w a (ds.take k) := by
  rcases h with h | ⟨b, off, h1, h2⟩
  · obtain rfl : ds = [] := by simpa using h
    left; simp
  · refine .inr ⟨b, off, h1, fun i r hr => h2 i r ?_⟩
    rw [List.map_take, List.getElem?_take] at hr
    split at hr
    · exact hr
    · cases hr
theorem DeedsAt.drop {w : World} {a : Option Addr} {ds : List D4} (h : DeedsAt w a ds) (k : Nat) (hk : k < ds.length) : ∃ b off, a = some ⟨b, off, none⟩ ∧ DeedsAt w (some ⟨b, off + k * 4, none⟩) (ds.drop k) := by
  rcases h with h | ⟨b, off, h1, h2⟩
  · obtain rfl : ds = [] := by simpa using h
    simp at hk
  · refine ⟨b, off, h1, .inr ⟨b, off + k * 4, rfl, fun i r hr => ?_⟩⟩
    rw [List.map_drop, List.getElem?_drop] at hr
    obtain ⟨h3, h4⟩ := h2 _ r hr
    refine ⟨h3, fun j v hv => ?_⟩
    rw [← h4 j v hv]
    congr 2
    omega
theorem DeedsAt.none (w : World) (a : Option Addr) : DeedsAt w a [] := .inl rfl
end Go.Proofs.Ytffhfpdmfegcpab.play
