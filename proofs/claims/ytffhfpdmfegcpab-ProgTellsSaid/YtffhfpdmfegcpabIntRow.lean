/- A slice of integers that came in. No function of the program is mentioned. -/
import Derived.Test.YtffhfpdmfegcpabTable
namespace Go.Proofs.Ytffhfpdmfegcpab.table
open Go.ChangeShapes Go.WideShapes Go.ChangeAt Go.RowKit
open Go.Proofs.Ytffhfpdmfegcpab.base Go.Proofs.Ytffhfpdmfegcpab.flat
set_option linter.unusedVariables false
set_option linter.unusedSimpArgs false

theorem open_introw {H : Type} {enc : TypeId × Value → H} {P : Program} {w : World} {base : Nat} {spare : Nat → Bool} {held : Bool} {m : Nat} {t e : TypeId} {a : Option Addr} {len cap : Nat} {d : DataW H} {ps : List MemPlace} {k : IntKind} (ht : P.underlying t = some (.slice e)) (hk : flat P m e = some [.int k]) (hl : 1 = P.cellsOf e)
    (h : DataW.Trod enc P w base spare held t (.slice a len cap) d ps) :
    len ≤ cap ∧ cap ≤ maxLen ∧ (a = none → len = 0) ∧ ∃ xs : List Int, xs.length = len ∧ IntsAt k w a xs ∧ ∀ x ∈ xs, (Lit.int k x).wf = true := by
  obtain ⟨h1, h2, h3, rs, h4, h5, h6⟩ := open_rows _ ht hk hl Nat.zero_lt_one h
  obtain ⟨xs, rfl, hxs⟩ := rows_of (cells := fun x : Int => [Value.int k x]) (good := fun x => (Lit.int k x).wf = true) (rs := rs) fun r hr => by
    obtain ⟨_, _, rfl, ⟨x, rfl, hx⟩, g⟩ := all2_cons (h6 r hr)
    obtain rfl := all2_nil g
    exact ⟨x, rfl, hx⟩
  refine ⟨h1, h2, h3, xs, by simpa using h4, ?_, hxs⟩
  rcases h5 with h5 | ⟨b, off, rfl, h5⟩
  · left; simpa using h5
  · refine .inr ⟨b, off, rfl, fun i x hx => ?_⟩
    have := (h5 i [.int k x] (by simp [hx])).2 0 _ rfl
    simpa using this
end Go.Proofs.Ytffhfpdmfegcpab.table
