/- A row of counts of the call's own. -/
import Derived.Test.YtffhfpdmfegcpabTallyLaw
import Derived.Test.YtffhfpdmfegcpabProgMerge
import Derived.Deep.AppendLies
namespace Go.Proofs.Ytffhfpdmfegcpab.tally
open Go.ChangeShapes Go.WideShapes Go.ChangeAt Go.RowKit
open Go.Proofs.Ytffhfpdmfegcpab.base Go.Proofs.Ytffhfpdmfegcpab.flat Go.Proofs.Ytffhfpdmfegcpab.table Go.Proofs.Ytffhfpdmfegcpab.addr Go.Proofs.Ytffhfpdmfegcpab.atomic Go.Proofs.Ytffhfpdmfegcpab.told Go.Proofs.Ytffhfpdmfegcpab.prog Go.Proofs.Ytffhfpdmfegcpab.rows
set_option linter.unusedVariables false
set_option linter.unusedSimpArgs false

def CountsAt (w : World) (a : Option Addr) (xs : List C5) : Prop := RowsAt 5 w a (xs.map C5.cells)
def CountsPost (n : Nat) (E : Int) (ts : List E6) (w : World) (e : Ending) (w' : World) : Prop :=
  Below w.heap.size w w' ∧ ((E = 0 ∧ ∃ a c, e = .returned (.tuple #[.slice a n c, .int .i64 0]) ∧ n ≤ c ∧ c ≤ maxLen ∧ (a = none → n = 0) ∧ CountsAt w' a (cntsL n ts))
    ∨ (¬ E = 0 ∧ e = .returned (.tuple #[.slice none 0 0, .int .i64 E])))
def RelCn (ts : List E6) (n g : Nat) (tc : TypeId) (w0 : World) (i : Value) (wr : World) : Prop :=
  ∃ (j : Nat) (l : Array Obj) (d : Nat), j ≤ ts.length ∧ i = .int .i64 j ∧ wr = w0.later l d
    ∧ (w0.later l d).ownsRow w0.heap.size tc 5 (.slice (some ⟨g, 0, none⟩) n n) n (cellsC (cntsL n (ts.take j)))
theorem CountsAt.below {w w' : World} {a : Option Addr} {xs : List C5} (h : CountsAt w a xs) (hb : Below w.heap.size w w') : CountsAt w' a xs := RowsAt.below h hb
theorem CountsAt.form {w : World} {a : Option Addr} {xs : List C5} (h : CountsAt w a xs) {i : Nat} {x : C5} (hx : xs[i]? = some x) : ∃ b off, a = some ⟨b, off, none⟩ :=
  RowsAt.form h (i := i) (r := x.cells) (by simp [hx])
theorem CountsAt.at {w : World} {b off : Nat} {xs : List C5} (h : CountsAt w (some ⟨b, off, none⟩) xs) {i : Nat} {x : C5} (hx : xs[i]? = some x) :
    w.cell? ⟨b, off + i * 5, none⟩ = some (.int .i64 x.a) ∧ w.cell? ⟨b, off + i * 5 + 1, none⟩ = some (.int .i64 x.b) ∧ w.cell? ⟨b, off + i * 5 + 2, none⟩ = some (.int .i64 x.c) ∧ w.cell? ⟨b, off + i * 5 + 3, none⟩ = some (.int .i64 x.d) ∧ w.cell? ⟨b, off + i * 5 + 4, none⟩ = some (.int .i64 x.e) := by
  have hr : (xs.map C5.cells)[i]? = some x.cells := by simp [hx]
  exact ⟨RowsAt.at h hr (j := 0) rfl, RowsAt.at h hr (j := 1) rfl, RowsAt.at h hr (j := 2) rfl, RowsAt.at h hr (j := 3) rfl, RowsAt.at h hr (j := 4) rfl⟩
theorem own_counts {w : World} {base n c : Nat} {e : TypeId} {a : Option Addr} {M : List C5} (hn : M.length = n) (h : w.ownsRow base e 5 (.slice a n c) n (cellsC M)) : CountsAt w a M := by
  subst hn
  cases M with
  | nil => exact .inl rfl
  | cons y M =>
    obtain ⟨g, rfl⟩ : ∃ g, a = some ⟨g, 0, none⟩ := by
      rcases h.2 with ⟨_, h1⟩ | ⟨g, cap, cur, hv, _⟩
      · simp at h1
      · injection hv with hv; exact ⟨g, hv⟩
    refine .inr ⟨g, 0, rfl, fun i r hr => ?_⟩
    rw [List.getElem?_map] at hr
    cases hx : (y :: M)[i]? with
    | none => rw [hx] at hr; cases hr
    | some x =>
      rw [hx] at hr
      obtain rfl := Option.some.inj hr
      refine ⟨rfl, fun j v hj => ?_⟩
      have hj5 : j < 5 := by
        have := (List.getElem?_eq_some_iff.1 hj).1
        simpa [C5.cells] using this
      have hi := (List.getElem?_eq_some_iff.1 hx).1
      rw [Nat.zero_add, World.ownsRow.cellAt h (i * 5 + j) (by omega), cellsC_get _ i j x hx hj5]
      exact hj
theorem cntL_nil (k : Nat) : cntL k [] = ⟨0, 0, 0, 0, 0⟩ := rfl
theorem made_counts (n : Nat) : (madeCells #[.int .i64 0, .int .i64 0, .int .i64 0, .int .i64 0, .int .i64 0] (n * 5)).toList = cellsC (cntsL n []) := by
  apply List.ext_getElem?
  intro j
  by_cases hj : j < n * 5
  · have h2 := cellsC_get (cntsL n []) (j / 5) (j % 5) _ (cntsL_get (by omega) []) (Nat.mod_lt _ (by decide))
    rw [show j / 5 * 5 + j % 5 = j by omega, cntL_nil] at h2
    rw [h2]
    have h5 : j % 5 < 5 := Nat.mod_lt _ (by decide)
    have e : (madeCells #[.int .i64 0, .int .i64 0, .int .i64 0, .int .i64 0, .int .i64 0] (n * 5)).toList[j]? = (#[Value.int .i64 0, .int .i64 0, .int .i64 0, .int .i64 0, .int .i64 0] : Array Value)[j % 5]? := by
      simp [madeCells, hj]
      obtain h | h | h | h | h : j % 5 = 0 ∨ j % 5 = 1 ∨ j % 5 = 2 ∨ j % 5 = 3 ∨ j % 5 = 4 := by omega
      all_goals simp [h]
    rw [e]
    obtain h | h | h | h | h : j % 5 = 0 ∨ j % 5 = 1 ∨ j % 5 = 2 ∨ j % 5 = 3 ∨ j % 5 = 4 := by omega
    all_goals rw [h]; rfl
  · rw [List.getElem?_eq_none (by simp [madeCells]; omega), List.getElem?_eq_none (by rw [cellsC_len, cntsL_len]; omega)]
theorem nth_up (x : C5) (a : Nat) (h : a < 4) : (x.up a).nth 4 = x.nth 4 := by
  match a, h with
  | 0, _ => rfl
  | 1, _ => rfl
  | 2, _ => rfl
  | 3, _ => rfl
  | n + 4, h => omega
theorem cells_on {M : List C5} {K : Nat} {x : C5} {e : E6} (hx : M[K]? = some x) {a : Nat} (ha : a < 4) (he : (e.d.k - 1).toNat = a) :
    cellsC (M.set K (x.on e)) = if e.b = true then ((cellsC M).set (K * 5 + a) (.int .i64 (x.nth a + 1))).set (K * 5 + 4) (.int .i64 (x.nth 4 + 1)) else (cellsC M).set (K * 5 + a) (.int .i64 (x.nth a + 1)) := by
  have h1 := cellsC_up hx a (by omega)
  unfold C5.on
  rw [he]
  cases e.b
  · simpa using h1
  · simp only [if_true]
    rw [← h1, ← nth_up x a ha]
    have hs : (M.set K (x.up a))[K]? = some (x.up a) := List.getElem?_set_self (List.getElem?_eq_some_iff.1 hx).1
    have h2 := cellsC_up hs 4 (by omega)
    rw [List.set_set] at h2
    exact h2

/-- within a round: the row of counts, and the event's own cells -/
structure St (W0 : World) (tc : TypeId) (g bx n : Nat) (k : Int) (b : Bool) (cs : List Value) (w : World) : Prop where
  low : ∃ l d, w = W0.later l d
  own : w.ownsRow W0.heap.size tc 5 (.slice (some ⟨g, 0, none⟩) n n) n cs
  c1 : w.cell? ⟨bx, 1, none⟩ = some (.int .i64 k)
  c5 : w.cell? ⟨bx, 5, none⟩ = some (.bool b)
theorem St.kept {W0 : World} {tc : TypeId} {g bx n : Nat} {k : Int} {b : Bool} {cs : List Value} {w w' : World} {row : Option Nat} (h : St W0 tc g bx n k b cs w) (hg : w.grownBy w' row) (hr : ∀ i, row = some i → W0.heap.size ≤ i ∧ i ≠ g ∧ i ≠ bx) : St W0 tc g bx n k b cs w' := by
  obtain ⟨l, d, rfl⟩ := h.low
  have hb := below_grown (W0 := W0) (bs_later (Below.refl _ _) l d) hg (fun i hi => (hr i hi).1)
  have hne : ∀ {z : Nat}, (z = g ∨ z = bx) → ¬ some z = row := fun hz e => by
    have := hr _ e.symm
    rcases hz with rfl | rfl
    · exact this.2.1 rfl
    · exact this.2.2 rfl
  refine ⟨later_of hb, h.own.kept hg (.inr (hne (.inl rfl))), ?_, ?_⟩
  · exact (hg.cell_far ⟨bx, 1, none⟩ (lt_of_cell h.c1) (hne (.inr rfl))).trans h.c1
  · exact (hg.cell_far ⟨bx, 5, none⟩ (lt_of_cell h.c5) (hne (.inr rfl))).trans h.c5
theorem St.store {W0 : World} {tc : TypeId} {g bx n : Nat} {k : Int} {b : Bool} {cs : List Value} {w : World} (h : St W0 tc g bx n k b cs w) (hg : W0.heap.size ≤ g) (hne : g ≠ bx) (q : Nat) (v : Value) : St W0 tc g bx n k b (cs.set q v) (w.setCell ⟨g, q, none⟩ v) := by
  obtain ⟨l, d, rfl⟩ := h.low
  obtain ⟨h1, h2⟩ := World.ownsRow.stored h.own q v
  have hb := below_grown (W0 := W0) (bs_later (Below.refl _ _) l d) h2 (fun i hi => by injection hi with hi; omega)
  refine ⟨later_of hb, h1, ?_, ?_⟩
  · exact (h2.cell_far ⟨bx, 1, none⟩ (lt_of_cell h.c1) (fun e => hne (by injection e with e; exact e.symm))).trans h.c1
  · exact (h2.cell_far ⟨bx, 5, none⟩ (lt_of_cell h.c5) (fun e => hne (by injection e with e; exact e.symm))).trans h.c5
end Go.Proofs.Ytffhfpdmfegcpab.tally
