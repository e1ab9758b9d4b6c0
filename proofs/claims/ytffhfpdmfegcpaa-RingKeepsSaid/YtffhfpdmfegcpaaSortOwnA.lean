/- slices.Sort at a row of integers of the call's own. -/
import Derived.Test.YtffhfpdmfegcpaaSortLay
import Derived.Test.YtffhfpdmfegcpaaStepLawA
import Derived.Sort.OwnSortedInts
namespace Go.Proofs.Ytffhfpdmfegcpaa.slot
open Go.ChangeShapes Go.WideShapes Go.ChangeAt Go.RowKit
open Go.Proofs.Ytffhfpdmfegcpaa.base Go.Proofs.Ytffhfpdmfegcpaa.flat Go.Proofs.Ytffhfpdmfegcpaa.table Go.Proofs.Ytffhfpdmfegcpaa.addr
set_option linter.unusedVariables false
set_option linter.unusedSimpArgs false

/-- behind the sort: the same row, sorted; other rows as they were -/
def SortPost (base : Nat) (v : Value) (n : Nat) (zs : List Int) (w : World) (e : Ending) (w' : World) : Prop :=
  e = .returned (.tuple #[]) ∧ w'.ownsRow base 3 1 v n ((sortI zs).map (Value.int .i64))
    ∧ (∀ (base2 : Nat) (e2 : TypeId) (s2 : Nat) (v2 : Value) (n2 : Nat) (xs2 : List Value), w.ownsRow base2 e2 s2 v2 n2 xs2 → (v2.ownBlock = none ∨ v2.ownBlock ≠ v.ownBlock) → w'.ownsRow base2 e2 s2 v2 n2 xs2)
    ∧ ∀ W : World, W.heap.size ≤ base → Below W.heap.size W w → Below W.heap.size W w'
set_option maxHeartbeats 1000000 in
set_option maxRecDepth 100000 in
theorem insertion_nil (w : World) : Calls Try.prog 70 #[.slice none 0 0, .int .i64 0, .int .i64 0] w (Ret (.tuple #[]) w) := by
  go_enter Try.func70, Try.ntmps70
  go_wp2
  go_loopw [6] (fun v wr => v = .int .i64 1 ∧ wr = w) (fun _ _ => 0)
  case atStart => exact ⟨rfl, rfl⟩
  case round =>
    obtain ⟨rfl, rfl⟩ := hrel
    go_wp2
    first | refine bodyPost_ret (results_none rfl _ _ _) rfl ?_ | refine bodyPost_end (results_none rfl _ _ _) rfl ?_
    exact ⟨rfl, (by repeat (first | exact Below.refl _ _ | apply bs_later | apply bs_alloc | apply bs_drew | apply bs_drewN))⟩
set_option maxHeartbeats 1000000 in
set_option maxRecDepth 100000 in
theorem sort_nil (w : World) : Calls Try.prog 41 #[.slice none 0 0] w (Ret (.tuple #[]) w) := by
  go_enter Try.func41, Try.ntmps41
  go_wp2
  go_loopw [3, 1, 9, 8, 2] (fun a b c d e wr => b = .int .i64 0 ∧ e = .int .i64 0 ∧ wr = w) (fun _ _ _ _ _ _ => 0)
  case atStart => exact ⟨rfl, rfl, rfl⟩
  case round =>
    obtain ⟨rfl, rfl, rfl⟩ := hrel
    go_wp2_with (go_at_call 70; refine (insertion_nil _).mono ?_; rintro e w1 ⟨rfl, hb1⟩; obtain ⟨l1, d1, rfl⟩ := later_of hb1; clear hb1)
    first | refine bodyPost_ret (results_none rfl _ _ _) rfl ?_ | refine bodyPost_end (results_none rfl _ _ _) rfl ?_
    exact ⟨rfl, (by repeat (first | exact Below.refl _ _ | apply bs_later | apply bs_alloc | apply bs_drew | apply bs_drewN))⟩
theorem sort_own {base n : Nat} {v : Value} {zs : List Int} {w : World} (hn : n < 4611686018427387904) (h : w.ownsRow base 3 1 v n (zs.map (Value.int .i64))) :
    Calls Try.prog 41 #[v] w (SortPost base v n zs w) := by
  have hl : zs.length = n := by have := h.1; simpa using this
  rcases h.2 with ⟨rfl, h0⟩ | ⟨g, cap, cur, rfl, hb, hgg, h1, h2, h3, h4⟩
  · subst h0
    obtain rfl : zs = [] := by simpa using hl
    refine (sort_nil w).mono ?_
    rintro e w' ⟨rfl, hb⟩
    obtain ⟨l, d, rfl⟩ := later_of hb
    exact ⟨rfl, (by rw [show sortI [] = [] by unfold sortI; rw [List.mergeSort_nil]]; exact World.ownsRow_nil _ _ _ _), fun _ _ _ _ _ _ h' _ => own_later h', fun W hW hbW => bs_later hbW l d⟩
  · subst hl
    refine (Any.slices_Sort_int Try.lays189 g 0 cap zs w (holds_of_blockI hgg (by rw [← h4, Nat.mul_one])) (Array.getElem?_eq_some_iff.1 hgg).1 hn).mono ?_
    rintro e w' ⟨rfl, m, os, rfl⟩
    have hg := grownBy_sortedI (w := w) (g := g) (n := m) (os := os) (zs.mergeSort fun x y => decide (x ≤ y)).toArray
    refine ⟨rfl, ?_, fun _ _ _ _ _ _ h' hne => h'.kept hg hne, fun W hW hbW => hbW.grown hg hbW.size (fun k hk => by cases hk; omega)⟩
    exact ownsRow_sortedI (List.length_mergeSort _) hb hgg h1 h2 h3
end Go.Proofs.Ytffhfpdmfegcpaa.slot
