/- slices.Reverse at a row of integers of the call's own. -/
import Derived.Test.YtffhfpdmfegcpacRevLay
import Derived.Test.YtffhfpdmfegcpacMem
import Derived.Sort.OwnSortedInts
namespace Go.Proofs.Ytffhfpdmfegcpac.find
open Go.ChangeShapes Go.WideShapes Go.ChangeAt Go.RowKit
open Go.Proofs.Ytffhfpdmfegcpac.base
set_option linter.unusedVariables false
set_option linter.unusedSimpArgs false

def RevPost (base : Nat) (v : Value) (n : Nat) (zs : List Int) (w : World) (e : Ending) (w' : World) : Prop :=
  e = .returned (.tuple #[]) ∧ w'.ownsRow base 3 1 v n (zs.reverse.map (Value.int .i64)) ∧ ∀ W : World, W.heap.size ≤ base → Below W.heap.size W w → Below W.heap.size W w'
theorem rev_own {base n : Nat} {v : Value} {zs : List Int} {w : World} (hn : n ≤ 9223372036854775807) (h : w.ownsRow base 3 1 v n (zs.map (Value.int .i64))) :
    Calls Try.prog 39 #[v] w (RevPost base v n zs w) := by
  have hl : zs.length = n := by have := h.1; simpa using this
  rcases h.2 with ⟨rfl, h0⟩ | ⟨g, cap, cur, rfl, hb, hgg, h1, h2, h3, h4⟩
  · subst h0
    obtain rfl : zs = [] := by simpa using hl
    refine (Any.slices_Reverse_int_empty Try.lays112 none 0 w).mono ?_
    rintro e w' ⟨rfl, rfl⟩
    exact ⟨rfl, World.ownsRow_nil _ _ _ _, fun W _ hbW => hbW⟩
  · subst hl
    refine (Any.slices_Reverse_int Try.lays112 g 0 cap zs w (holds_of_blockI hgg (by rw [← h4, Nat.mul_one])) hn).mono ?_
    rintro e w' ⟨rfl, m, rfl⟩
    have hz : ∀ W : World, W = Sort.grow W #[] := fun W => by simp [Sort.grow]
    have hg := grownBy_sortedI (w := w) (g := g) (n := m) (os := #[]) zs.reverse.toArray
    rw [← hz] at hg
    refine ⟨rfl, ?_, fun W hW hbW => hbW.grown hg hbW.size (fun k hk => by cases hk; omega)⟩
    have := ownsRow_sortedI (ss := zs) (ts := zs.reverse) (n := m) (os := #[]) (by simp) hb hgg h1 h2 h3
    rw [← hz] at this
    exact this
end Go.Proofs.Ytffhfpdmfegcpac.find
