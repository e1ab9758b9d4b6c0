/- A memory that lies in a block, read whole inside a region that draws its order. No function of the program is mentioned. -/
import Derived.Test.YtffhfpdmfegcpacBank
import Derived.Deep.MidRow
import Derived.Deep.RegionHeld3
namespace Go.Proofs.Ytffhfpdmfegcpac.range
open Go.ChangeShapes Go.WideShapes Go.ChangeAt Go.RowKit
open Go.Proofs.Ytffhfpdmfegcpac.base Go.Proofs.Ytffhfpdmfegcpac.bank
set_option linter.unusedVariables false
set_option linter.unusedSimpArgs false

theorem lt_of_cell {w : World} {b i : Nat} {v : Value} (h : w.cell? ⟨b, i, none⟩ = some v) : b < w.heap.size := by
  rcases Nat.lt_or_ge b w.heap.size with h1 | h1
  · exact h1
  · simp [World.cell?, Array.getElem?_eq_none h1] at h
theorem cell_rowOf {w : World} {n k : Nat} (h : okRow w n k) (i : Nat) : w.cell? ⟨n, i, none⟩ = (rowOf w n)[i]? := by
  obtain ⟨c, t, h1, _⟩ := h
  unfold rowOf
  simp [World.cell?, h1]
def MemAt (w : World) (b : Nat) (xs : List Int) : Prop := okRow w b 64 ∧ rowOf w b = memA xs
theorem range_below {w w' : World} {b o : Nat} {cs : List Value} (h : w.rangeAt b o cs) (hb : Below w.heap.size w w') : w'.rangeAt b o cs := fun j v hv => by
  have h3 := h j v hv
  rw [hb.cell (p := ⟨b, _, none⟩) (lt_of_cell h3)]
  exact h3
theorem range_mem {w : World} {b : Nat} {xs : List Int} (h : MemAt w b xs) : w.rangeAt b 0 (xs.map (Value.int .u64)) := fun j v hv => by
  rw [cell_rowOf h.1, h.2, Nat.zero_add]
  simpa [memA] using hv
theorem MemAt.below {w w' : World} {b : Nat} {xs : List Int} (h : MemAt w b xs) (hb : Below w.heap.size w w') : MemAt w' b xs := by
  obtain ⟨l, d, rfl⟩ := later_of hb
  exact ⟨(okRow_later l d).2 (.inl h.1), by rw [rowOf_later l d (okRow_lt h.1)]; exact h.2⟩
theorem below_trans {W0 w w' : World} (h : Below W0.heap.size W0 w) (hb : Below w.heap.size w w') : Below W0.heap.size W0 w' := by
  obtain ⟨l, d, rfl⟩ := later_of hb
  exact bs_later h l d
theorem wpList_load_w {P : Program} {ops : Array Oper} {rest : List Oper} {o : Oper} {a : Act} {w : World} {Q : Exit → Act → World → Prop} (hw : Region.wanted o (yielded ops a.tmps) = true) (ty : TypeId) (x : Operand) (ho : o.op = .load ty x)
    (n : Nat) (hx : a.eval x = .pointer (some ⟨n, 0, none⟩)) (k : Nat) (d : TypeDesc) (hu : P.underlying ty = some d) (hd : (match d with | .struct _ | .array _ _ => true | _ => false) = true) (hi : (P.info? ty).map (·.size) = some k)
    (h : okRow w n k) (hK : ∀ C, rowOf w n = C → wpList P ops Q rest (a.put o.dst (.agg C)) w) : wpList P ops Q (o :: rest) a w :=
  wpList_step fun K hK' => by
    rw [if_pos hw]
    exact wp_load_r ty x ho n hx k d hu hd hi h fun C hC => hK' _ _ (hK C hC)
theorem own_nil {w : World} {base size n c : Nat} {e : TypeId} {xs : List Value} (h : w.ownsRow base e size (.slice none n c) n xs) : n = 0 ∧ c = 0 := by
  rcases h.2 with ⟨h1, h2⟩ | ⟨g, cap, cur, h1, _⟩
  · injection h1 with _ _ h3
    exact ⟨h2, h3⟩
  · injection h1 with h1; cases h1
end Go.Proofs.Ytffhfpdmfegcpac.range
