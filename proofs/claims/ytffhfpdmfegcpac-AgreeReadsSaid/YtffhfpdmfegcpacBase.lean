/- Plain lemmas on lists, worlds and cells, used by the walks. No function of the program is mentioned. -/
import Derived.WalkKit
import Derived.ProofKit
import Derived.OpenShut
import Derived.ShutString
import Derived.WalkLawsBesides
import Derived.WalkSpells
import Derived.Handy
import Derived.Deep.QuietTactic
import Derived.BigQuiet
import Derived.Lib.Hide
namespace Go.Proofs.Ytffhfpdmfegcpac.base
open Go.ChangeShapes Go.WideShapes Go.ChangeAt Go.RowKit
set_option linter.unusedVariables false
set_option linter.unusedSimpArgs false

/-- the cells behind address a hold the numbers xs -/
def IntsAt (k : IntKind) (w : World) (a : Option Addr) (xs : List Int) : Prop :=
  xs = [] ∨ ∃ b off, a = some ⟨b, off, none⟩ ∧ ∀ i x, xs[i]? = some x → w.cell? ⟨b, off + i, none⟩ = some (.int k x)

theorem IntsAt.drewN {k w a xs} (h : IntsAt k w a xs) (n : Nat) : IntsAt k (w.drewN n) a xs := h

theorem take_eq_snoc {α} {xs ys : List α} {k : Nat} {x y : α} (hx : xs[k]? = some x) (hy : ys[k]? = some y) (h : xs.take k = ys.take k) (e : x = y) : xs.take (k + 1) = ys.take (k + 1) := by
  rw [List.take_add_one, List.take_add_one, hx, hy, h, e]
theorem eq_of_take {α} {xs ys : List α} (hl : xs.length = ys.length) (h : xs.take xs.length = ys.take xs.length) : xs = ys := by
  rw [List.take_of_length_le (Nat.le_refl _), hl, List.take_of_length_le (Nat.le_refl _)] at h
  exact h
theorem drewN2 (w : World) (a b : Nat) : ∃ n, (w.drewN a).drewN b = w.drewN n := ⟨_, World.drewN_drewN _ _ _⟩
theorem ne_of_at {α} {xs ys : List α} {k : Nat} {x y : α} (hx : xs[k]? = some x) (hy : ys[k]? = some y) (h : ¬ x = y) : ¬ xs = ys := by
  rintro rfl; rw [hx] at hy; exact h (Option.some.inj hy)
theorem ret_bool {a b : Bool} (h : a = b) : Ending.returned (.bool a) = .returned (.bool b) := by rw [h]
theorem arr_at {k : IntKind} {xs : List Int} {i : Nat} {x : Int} (h : xs[i]? = some x) : ((xs.map (Value.int k)).toArray)[0 + i]? = some (.int k x) := by simp [h]
theorem below_drewN {B : Nat} {a w : World} (h : Below B a w) (n : Nat) : Below B a (w.drewN n) := ⟨h.os, h.tape, h.output, h.size, h.block⟩
theorem get_some {α} {xs : List α} {k : Nat} (h : k < xs.length) : ∃ x, xs[k]? = some x := ⟨xs[k], List.getElem?_eq_getElem h⟩

/-- The world w with new blocks behind its own, and another count of draws. -/
def _root_.Go.World.later (w : World) (l : Array Obj) (d : Nat) : World := { w with heap := w.heap ++ l, drawn := d }

theorem later_of {w w1 : World} (h : Below w.heap.size w w1) : ∃ l d, w1 = w.later l d := by
  refine ⟨w1.heap.extract w.heap.size w1.heap.size, w1.drawn, ?_⟩
  have e : w1.heap = w.heap ++ w1.heap.extract w.heap.size w1.heap.size := by
    apply Array.ext_getElem?
    intro i
    rw [Array.getElem?_append]
    split
    · rename_i hi; exact h.block i hi
    · rename_i hi
      rw [Array.getElem?_extract]
      split
      · congr 1; omega
      · rename_i hj
        have := h.size
        rw [Array.getElem?_eq_none (by omega)]
  cases w1 with
  | mk heap tape drawn os output =>
    have h1 := h.os; have h2 := h.tape; have h3 := h.output
    simp only at h1 h2 h3 e
    subst h1; subst h2; subst h3
    simp only [World.later]
    congr 1

section
variable (w : World) (l : Array Obj) (d : Nat)
@[simp, go_sem] theorem size_later : (w.later l d).heap.size = w.heap.size + l.size := by simp [World.later]
@[simp, go_sem] theorem later_drew : (w.later l d).drew = w.later l (d + 1) := rfl
@[simp, go_sem] theorem later_drewN (n : Nat) : (w.later l d).drewN n = w.later l (d + n) := rfl
theorem heap_later (n : Nat) (hn : n < w.heap.size) : (w.later l d).heap[n]? = w.heap[n]? := by
  simp only [World.later]; rw [Array.getElem?_append_left hn]
theorem setCell_later (n i : Nat) (v : Value) (hn : n < w.heap.size) : (w.later l d).setCell ⟨n, i, none⟩ v = (w.setCell ⟨n, i, none⟩ v).later l d := by
  simp only [World.later, World.setCell]
  congr 1
  apply Array.ext_getElem?
  intro k
  simp only [Array.getElem?_modify, Array.getElem?_append, Array.size_modify]
  by_cases hk : n = k
  · subst hk; simp [hn]
  · simp [hk]
end

/-- block n is one of w's -/
def inB (w : World) (n : Nat) : Prop := n < w.heap.size
def farB (w : World) (l : Array Obj) (n : Nat) : Prop := n < w.heap.size + l.size
section
variable {w : World} {n : Nat}
@[go_sem] theorem inB_alloc (o : Obj) : inB (w.alloc o) n ↔ (n = w.heap.size ∨ inB w n) := by unfold inB; simp; omega
@[go_sem] theorem inB_later (l : Array Obj) (d : Nat) : inB (w.later l d) n ↔ (inB w n ∨ farB w l n) := by unfold inB farB; simp; omega
@[go_sem] theorem inB_drew : inB w.drew n ↔ inB w n := Iff.rfl
@[go_sem] theorem inB_drewN (k : Nat) : inB (w.drewN k) n ↔ inB w n := Iff.rfl
@[go_sem] theorem cell_alloc_in (o : Obj) (i : Nat) (h : inB w n) : (w.alloc o).cell? ⟨n, i, none⟩ = w.cell? ⟨n, i, none⟩ := World.cell?_alloc_past o n i h
@[go_sem] theorem frozen_alloc_in (o : Obj) (i : Nat) (h : inB w n) : (w.alloc o).frozen? ⟨n, i, none⟩ = w.frozen? ⟨n, i, none⟩ := World.frozen?_alloc_past o n i h
@[go_sem] theorem setCell_alloc_in (o : Obj) (i : Nat) (v : Value) (h : inB w n) : (w.alloc o).setCell ⟨n, i, none⟩ v = (w.setCell ⟨n, i, none⟩ v).alloc o := World.setCell_alloc_past o n i v h
@[go_sem] theorem cell_later_in (l : Array Obj) (d i : Nat) (h : inB w n) : (w.later l d).cell? ⟨n, i, none⟩ = w.cell? ⟨n, i, none⟩ := World.cell?_of_block (w := w) (heap_later w l d n h)
@[go_sem] theorem frozen_later_in (l : Array Obj) (d i : Nat) (h : inB w n) : (w.later l d).frozen? ⟨n, i, none⟩ = w.frozen? ⟨n, i, none⟩ := World.frozen?_of_block (w := w) (heap_later w l d n h)
@[go_sem] theorem setCell_later_in (l : Array Obj) (d i : Nat) (v : Value) (h : inB w n) : (w.later l d).setCell ⟨n, i, none⟩ v = (w.setCell ⟨n, i, none⟩ v).later l d := setCell_later w l d n i v h
end

theorem below_later {B : Nat} {a w : World} (h : Below B a w) (hB : B ≤ w.heap.size) (l : Array Obj) (d : Nat) : Below B a (w.later l d) :=
  h.trans ⟨rfl, rfl, rfl, by simp, fun k hk => heap_later w l d k (by omega)⟩
theorem bs_later {a w : World} (h : Below a.heap.size a w) (l : Array Obj) (d : Nat) : Below a.heap.size a (w.later l d) := below_later h h.size l d
theorem bs_alloc {a w : World} (h : Below a.heap.size a w) (o : Obj) : Below a.heap.size a (w.alloc o) := h.alloc h.size o
theorem bs_drew {a w : World} (h : Below a.heap.size a w) : Below a.heap.size a w.drew := h.drew
theorem bs_drewN {a w : World} (h : Below a.heap.size a w) (n : Nat) : Below a.heap.size a (w.drewN n) := below_drewN h n

/-- the call returns v, and what there was is as it was -/
def Ret (v : Value) (w : World) (e : Ending) (w' : World) : Prop := e = .returned v ∧ Below w.heap.size w w'
end Go.Proofs.Ytffhfpdmfegcpac.base
