/- A slice of slices that came in: its lists. No function of the program is mentioned. -/
import Derived.Test.YtffhfpdmfegcpacTable2
namespace Go.Proofs.Ytffhfpdmfegcpac.table
open Go.ChangeShapes Go.WideShapes Go.ChangeAt Go.RowKit
open Go.Proofs.Ytffhfpdmfegcpac.base Go.Proofs.Ytffhfpdmfegcpac.flat
set_option linter.unusedVariables false
set_option linter.unusedSimpArgs false

/-- the slices behind address a: slice i holds the list ls[i], as Q reads it -/
def ListsAt {α : Type} (Q : World → Option Addr → List α → Prop) (w : World) (a : Option Addr) (ls : List (List α)) : Prop :=
  ls = [] ∨ ∃ b off, a = some ⟨b, off, none⟩ ∧ ∀ i l, ls[i]? = some l → ∃ p c, w.cell? ⟨b, off + i, none⟩ = some (.slice p l.length c) ∧ l.length ≤ c ∧ c ≤ maxLen ∧ (p = none → l.length = 0) ∧ Q w p l

section
variable {H : Type} {enc : TypeId × Value → H} {P : Program} {w : World} {base : Nat} {spare : Nat → Bool} {held : Bool}
theorem open_lists {α : Type} {Q : World → Option Addr → List α → Prop} {good : α → Prop} {t e f : TypeId} {a : Option Addr} {len cap : Nat} {d : DataW H} {ps : List MemPlace}
    (ht : P.underlying t = some (.slice e)) (he : P.underlying e = some (.slice f)) (hc : P.cellsOf e = 1)
    (inner : ∀ a len cap d ps, DataW.Trod enc P w base spare held e (.slice a len cap) d ps → len ≤ cap ∧ cap ≤ maxLen ∧ (a = none → len = 0) ∧ ∃ xs : List α, xs.length = len ∧ Q w a xs ∧ ∀ x ∈ xs, good x)
    (h : DataW.Trod enc P w base spare held t (.slice a len cap) d ps) :
    len ≤ cap ∧ cap ≤ maxLen ∧ (a = none → len = 0) ∧ ∃ ls : List (List α), ls.length = len ∧ ListsAt Q w a ls ∧ ∀ l ∈ ls, ∀ x ∈ l, good x := by
  obtain ⟨fuel, hf⟩ := h
  have hf' : DataW.trod enc P w base spare held fuel t [.slice a len cap] = some (d, ps) := hf
  rcases Deep.open_slice1 ht hc hf' with ⟨h1, _⟩ | ⟨a', len', cap', m', n, V, D, Pl, h1, hb, hle, hcm, hm, _, hx⟩
  · injection h1 with h1 _
    injection h1 with h1 h2 h3
    subst h1; subst h2; subst h3
    exact ⟨Nat.le_refl _, by decide, fun _ => rfl, [], rfl, .inl rfl, (fun r hr => nomatch hr)⟩
  · injection h1 with h1 _
    injection h1 with h1 h2 h3
    subst h1; subst h2; subst h3
    refine ⟨hle, hcm, (fun h => nomatch h), ?_⟩
    have hmm : len ≤ m' := by rw [hm]; split <;> omega
    have each : ∀ i, i < len → ∃ l : List α, (∃ p c, w.cell? (a'.add i) = some (.slice p l.length c) ∧ l.length ≤ c ∧ c ≤ maxLen ∧ (p = none → l.length = 0) ∧ Q w p l) ∧ ∀ x ∈ l, good x := by
      intro i hi
      obtain ⟨h1, h2⟩ := hx i (by omega)
      have hv : ∃ p ln c, V i = .slice p ln c := by
        rcases Deep.open_slice he h2 with ⟨h3, _⟩ | ⟨a2, len2, cap2, _, _, _, _, h3, _⟩
        · injection h3 with h3 _; exact ⟨_, _, _, h3⟩
        · injection h3 with h3 _; exact ⟨_, _, _, h3⟩
      obtain ⟨p, ln, c, hv⟩ := hv
      rw [hv] at h1 h2
      obtain ⟨i1, i2, i3, xs, rfl, hq, hg⟩ := inner p ln c _ _ ⟨n, h2⟩
      exact ⟨xs, ⟨p, c, h1, i1, i2, i3, hq⟩, hg⟩
    obtain ⟨R, hR⟩ := Deep.choose_lt each
    refine ⟨(List.range len).map R, by simp, ?_, ?_⟩
    · rcases Nat.eq_zero_or_pos len with h0 | h0
      · left; subst h0; rfl
      · right
        have hs : a'.spot = none := by
          obtain ⟨⟨p, c, h7, _⟩, _⟩ := hR 0 h0
          simp only [World.cell?, Addr.add] at h7
          cases hsp : a'.spot with
          | none => rfl
          | some s => simp [hsp] at h7; split at h7 <;> cases h7
        obtain ⟨b, off, sp⟩ := a'
        simp only at hs
        subst hs
        refine ⟨b, off, rfl, fun i r hr => ?_⟩
        have hi : i < len := by have := (List.getElem?_eq_some_iff.1 hr).1; simpa using this
        have hr' : R i = r := by
          rw [List.getElem?_map, List.getElem?_range hi] at hr
          exact Option.some.inj hr
        subst hr'
        obtain ⟨⟨p, c, h7, h8⟩, _⟩ := hR i hi
        refine ⟨p, c, ?_, h8⟩
        rw [show (⟨b, off, none⟩ : Addr).add i = ⟨b, off + i, none⟩ by
          unfold Addr.add; split
          · rename_i h; rw [h]; rfl
          · rfl] at h7
        exact h7
    · intro r hr
      simp only [List.mem_map, List.mem_range] at hr
      obtain ⟨i, hi, rfl⟩ := hr
      exact (hR i hi).2
end

theorem ListsAt.below {α : Type} {Q : World → Option Addr → List α → Prop} (hQ : ∀ {w w' a l}, Below w.heap.size w w' → Q w a l → Q w' a l) {w w' : World} {a : Option Addr} {ls : List (List α)} (h : ListsAt Q w a ls) (hb : Below w.heap.size w w') : ListsAt Q w' a ls := by
  rcases h with h | ⟨b, off, h1, h2⟩
  · exact .inl h
  · refine .inr ⟨b, off, h1, fun i l hl => ?_⟩
    obtain ⟨p, c, h3, h4, h5, h6, h7⟩ := h2 i l hl
    exact ⟨p, c, by rw [hb.cell (p := ⟨b, _, none⟩) (lt_of_cell h3)]; exact h3, h4, h5, h6, hQ hb h7⟩
theorem ListsAt.form {α : Type} {Q : World → Option Addr → List α → Prop} {w : World} {a : Option Addr} {ls : List (List α)} (h : ListsAt Q w a ls) {i : Nat} {l : List α} (hl : ls[i]? = some l) : ∃ b off, a = some ⟨b, off, none⟩ := by
  rcases h with rfl | ⟨b, off, h1, _⟩
  · cases hl
  · exact ⟨b, off, h1⟩
theorem ListsAt.at {α : Type} {Q : World → Option Addr → List α → Prop} {w : World} {b off : Nat} {ls : List (List α)} (h : ListsAt Q w (some ⟨b, off, none⟩) ls) {i : Nat} {l : List α} (hl : ls[i]? = some l) :
    ∃ p c, w.cell? ⟨b, off + i, none⟩ = some (.slice p l.length c) ∧ l.length ≤ c ∧ c ≤ maxLen ∧ (p = none → l.length = 0) ∧ Q w p l := by
  rcases h with rfl | ⟨b', off', h1, h2⟩
  · cases hl
  · injection h1 with h1
    injection h1 with h3 h4
    subst h3; subst h4
    exact h2 i l hl
end Go.Proofs.Ytffhfpdmfegcpac.table
