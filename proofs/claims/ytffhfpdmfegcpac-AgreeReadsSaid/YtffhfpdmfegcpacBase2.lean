/- More plain lemmas: slices that the call itself made, in a world with new blocks. No function of the program is mentioned. -/
import Derived.Test.YtffhfpdmfegcpacBase
namespace Go.Proofs.Ytffhfpdmfegcpac.base
open Go.ChangeShapes Go.WideShapes Go.ChangeAt Go.RowKit
set_option linter.unusedVariables false
set_option linter.unusedSimpArgs false

theorem later_later (w : World) (l l' : Array Obj) (d d' : Nat) : (w.later l d).later l' d' = w.later (l ++ l') d' := by simp [World.later, Array.append_assoc]
theorem later_alloc (w : World) (l : Array Obj) (d : Nat) (o : Obj) : (w.later l d).alloc o = w.later (l.push o) d := by
  simp only [World.later, World.alloc, Array.push_append]

/-- A row of the call's own stays its own while blocks below it are written. -/
theorem own_swap {W0 W1 : World} {l : Array Obj} {d d' base : Nat} {e : TypeId} {size : Nat} {v : Value} {n : Nat} {xs : List Value} (h : (W0.later l d).ownsRow base e size v n xs) (hb : W0.heap.size ≤ base) (hs : W1.heap.size = W0.heap.size) :
    (W1.later l d').ownsRow base e size v n xs := by
  refine ⟨h.1, ?_⟩
  rcases h.2 with hn | ⟨g, cap, cur, hv, hg, hh, r⟩
  · exact .inl hn
  · refine .inr ⟨g, cap, cur, hv, hg, ?_, r⟩
    have h1 : (W0.later l d).heap[g]? = (W1.later l d').heap[g]? := by
      simp only [World.later, Array.getElem?_append]
      rw [if_neg (by omega), if_neg (by omega), hs]
    rw [← h1]; exact hh
theorem own_later {W : World} {l : Array Obj} {d base : Nat} {e : TypeId} {size : Nat} {v : Value} {n : Nat} {xs : List Value} (h : W.ownsRow base e size v n xs) : (W.later l d).ownsRow base e size v n xs := by
  refine ⟨h.1, ?_⟩
  rcases h.2 with hn | ⟨g, cap, cur, hv, hg, hh, r⟩
  · exact .inl hn
  · refine .inr ⟨g, cap, cur, hv, hg, ?_, r⟩
    rw [heap_later W l d g (by rcases Nat.lt_or_ge g W.heap.size with h | h; exact h; rw [Array.getElem?_eq_none h] at hh; cases hh)]
    exact hh
theorem own_form {w : World} {base size n : Nat} {e : TypeId} {v : Value} {xs : List Value} (h : w.ownsRow base e size v n xs) : ∃ a c, v = .slice a n c := by
  rcases h.2 with ⟨h1, h2⟩ | ⟨g, cap, cur, hv, _⟩
  · subst h1; subst h2; exact ⟨none, 0, rfl⟩
  · exact ⟨_, _, hv⟩
theorem own_ints {w : World} {base : Nat} {e : TypeId} {k : IntKind} {a : Option Addr} {n c : Nat} {xs : List Int} (h : w.ownsRow base e 1 (.slice a n c) n (xs.map (Value.int k))) : xs.length = n ∧ IntsAt k w a xs := by
  have hl : xs.length = n := by have := h.1; simpa using this
  refine ⟨hl, ?_⟩
  rcases h.2 with ⟨h1, h2⟩ | ⟨g, cap, cur, hv, hg, hh, h3, h4, h5, h6⟩
  · subst h2; exact .inl (List.length_eq_zero_iff.1 hl)
  · injection hv with h7 h8 h9
    subst h7
    refine .inr ⟨g, 0, rfl, fun i x hx => ?_⟩
    have hi : i < n := by rw [← hl]; exact (List.getElem?_eq_some_iff.1 hx).1
    rw [Nat.mul_one] at h6
    have h10 : (cur.toList.take n)[i]? = some (Value.int k x) := by rw [h6]; simp [hx]
    rw [List.getElem?_take] at h10
    simp only [hi, if_true] at h10
    simp [World.cell?, hh]
    simpa using h10
theorem below_grown {W0 W1 w' : World} {row : Option Nat} (h : Below W0.heap.size W0 W1) (hg : W1.grownBy w' row) (hr : ∀ k, row = some k → W0.heap.size ≤ k) : Below W0.heap.size W0 w' := h.grown hg h.size hr
end Go.Proofs.Ytffhfpdmfegcpac.base
