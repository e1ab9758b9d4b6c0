/- The first fault of programs, as a law of lists. -/
import Derived.Test.YtffhfpdmfegcpacAtomic
import Derived.Test.YtffhfpdmfegcpacLists
import Derived.Test.YtffhfpdmfegcpacAddr
import Derived.Test.YtffhfpdmfegcpacBase2
namespace Go.Proofs.Ytffhfpdmfegcpac.prog
open Go.ChangeShapes Go.WideShapes Go.ChangeAt Go.RowKit
open Go.Proofs.Ytffhfpdmfegcpac.base Go.Proofs.Ytffhfpdmfegcpac.flat Go.Proofs.Ytffhfpdmfegcpac.table Go.Proofs.Ytffhfpdmfegcpac.addr Go.Proofs.Ytffhfpdmfegcpac.atomic
set_option linter.unusedVariables false
set_option linter.unusedSimpArgs false

/-- the first number that is not zero -/
def fnz {α : Type} (f : Nat → α → Int) : Nat → List α → Int
  | _, [] => 0
  | i, x :: l => if f i x = 0 then fnz f (i + 1) l else f i x
theorem fnz_at {α : Type} {f : Nat → α → Int} : ∀ {xs : List α} {s k : Nat} {x : α}, (∀ (i : Nat) (y : α), i < k → xs[i]? = some y → f (s + i) y = 0) → xs[k]? = some x → ¬ f (s + k) x = 0 → fnz f s xs = f (s + k) x
  | [], s, k, x, h, hx, hb => by simp at hx
  | y :: l, s, 0, x, h, hx, hb => by
    obtain rfl : y = x := by simpa using hx
    rw [Nat.add_zero] at hb ⊢
    unfold fnz; rw [if_neg hb]
  | y :: l, s, k + 1, x, h, hx, hb => by
    have h0 : f s y = 0 := h 0 y (by omega) rfl
    unfold fnz
    rw [if_pos h0]
    have := fnz_at (f := f) (xs := l) (s := s + 1) (k := k) (x := x) (fun i z hi hz => by
      have := h (i + 1) z (by omega) (by simpa using hz)
      rwa [show s + 1 + i = s + (i + 1) by omega]) (by simpa using hx) (by rwa [show s + 1 + k = s + (k + 1) by omega])
    rw [this, show s + 1 + k = s + (k + 1) by omega]
theorem fnz_ok {α : Type} {f : Nat → α → Int} : ∀ {xs : List α} {s : Nat}, (∀ (i : Nat) (y : α), xs[i]? = some y → f (s + i) y = 0) → fnz f s xs = 0
  | [], s, h => rfl
  | y :: l, s, h => by
    have h0 : f s y = 0 := h 0 y rfl
    unfold fnz
    rw [if_pos h0]
    exact fnz_ok fun i z hz => by
      have := h (i + 1) z (by simpa using hz)
      rwa [show s + 1 + i = s + (i + 1) by omega]
theorem fnz_all {α : Type} {f : Nat → α → Int} : ∀ {xs : List α} {s : Nat}, fnz f s xs = 0 → ∀ (i : Nat) (y : α), xs[i]? = some y → f (s + i) y = 0
  | [], s, h, i, y, hy => by simp at hy
  | x :: l, s, h, i, y, hy => by
    unfold fnz at h
    by_cases h0 : f s x = 0
    · rw [if_pos h0] at h
      cases i with
      | zero => obtain rfl : x = y := by simpa using hy
                exact h0
      | succ i =>
        have := fnz_all (s := s + 1) h i y (by simpa using hy)
        rwa [show s + 1 + i = s + (i + 1) by omega] at this
    · rw [if_neg h0] at h; exact absurd h h0
/-- the fault of a deed in program i -/
def deedP (i : Nat) (_ : Nat) (x : D4) : Int := if rightE x.n x.k x.a x.v = 0 then (if x.n = (i : Int) then 0 else 3) else rightE x.n x.k x.a x.v
/-- the fault of program i -/
def listP (i : Nat) (l : List D4) : Int := if 20 < l.length then 2 else fnz (deedP i) 0 l
/-- the fault of programs -/
def progsE (cn cs cy cb : Int) (ps : List (List D4)) : Int := if cfgE cn cs cy cb = 0 then (if (ps.length : Int) = cn then fnz listP 0 ps else 3) else cfgE cn cs cy cb
theorem next_all {α : Type} {f : Nat → α → Int} {xs : List α} {s k : Nat} {x : α} (hx : xs[k]? = some x) (h : ∀ (i : Nat) (y : α), i < k → xs[i]? = some y → f (s + i) y = 0) (hf : f (s + k) x = 0) : ∀ (i : Nat) (y : α), i < k + 1 → xs[i]? = some y → f (s + i) y = 0 := by
  intro i y hi hy
  by_cases hik : i < k
  · exact h i y hik hy
  · obtain rfl : i = k := by omega
    obtain rfl := Option.some.inj (hx.symm.trans hy)
    exact hf
def RelL {α : Type} (f : Nat → α → Int) (xs : List α) (w0 : World) (i : Value) (wr : World) : Prop :=
  ∃ (k : Nat) (l : Array Obj) (d : Nat), k ≤ xs.length ∧ i = .int .i64 k ∧ wr = w0.later l d ∧ ∀ (i : Nat) (y : α), i < k → xs[i]? = some y → f (0 + i) y = 0
theorem later_al (A : World) (l l' : Array Obj) (d d' : Nat) (o : Obj) : ((A.later l d).alloc o).later l' d' = A.later (l.push o ++ l') d' := by rw [later_alloc, later_later]
@[go_sem] theorem drewN_set {w : World} {n : Nat} {a : Addr} {v : Value} : (w.drewN n).setCell a v = (w.setCell a v).drewN n := rfl
end Go.Proofs.Ytffhfpdmfegcpac.prog
