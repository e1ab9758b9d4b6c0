/- A struct built with one part that is a row of cells. No function of the program is mentioned. -/
import Derived.Test.YtffhfpdmfegcpacTurn
import Derived.Laws.Tables
namespace Go.Proofs.Ytffhfpdmfegcpac.turn
open Go.ChangeShapes Go.WideShapes Go.ChangeAt Go.RowKit
open Go.Proofs.Ytffhfpdmfegcpac.base
set_option linter.unusedVariables false
set_option linter.unusedSimpArgs false

theorem fold_put (off : Nat) : ∀ (vs : List Value) (k : Nat) (C : Array Value) (i : Nat), ((vs.zipIdx k).foldl (fun (cs : Array Value) (p : Value × Nat) => cs.setIfInBounds (off + p.2) p.1) C)[i]? =
    if off + k ≤ i ∧ i < off + k + vs.length ∧ i < C.size then vs[i - (off + k)]? else C[i]?
  | [], k, C, i => by simp; intro h1 h2 _; omega
  | v :: vs, k, C, i => by
    rw [List.zipIdx_cons, List.foldl_cons, fold_put off vs (k + 1) _ i]
    simp only [Array.size_setIfInBounds, List.length_cons]
    by_cases h1 : off + (k + 1) ≤ i ∧ i < off + (k + 1) + vs.length ∧ i < C.size
    · rw [if_pos h1, if_pos (by omega), show i - (off + k) = i - (off + (k + 1)) + 1 by omega, List.getElem?_cons_succ]
    · rw [if_neg h1]
      by_cases h2 : i = off + k
      · subst h2
        rw [Array.getElem?_setIfInBounds]
        by_cases h3 : off + k < C.size
        · rw [if_pos rfl, if_pos h3, if_pos (by omega)]; simp
        · rw [if_pos rfl, if_neg h3, if_neg (by omega), Array.getElem?_eq_none (by omega)]
      · rw [Array.getElem?_setIfInBounds_ne (by omega), if_neg (by omega)]
theorem fold_splice (off : Nat) (c C : Array Value) (h : off + c.size ≤ C.size) : c.zipIdx.foldl (fun (cs : Array Value) (p : Value × Nat) => cs.setIfInBounds (off + p.2) p.1) C = splice C off c := by
  rw [← Array.foldl_toList, Array.toList_zipIdx]
  apply Array.ext_getElem?
  intro i
  have e := fold_put off c.toList 0 C i
  simp only [Nat.add_zero] at e
  rw [e]
  unfold splice
  simp only [Array.getElem?_append, Array.size_append, Array.size_extract, Array.getElem?_extract]
  have hs : min off C.size - 0 = off := by omega
  rw [hs]
  have hc : c.toList.length = c.size := by simp
  rw [hc]
  by_cases h1 : i < off
  · rw [if_neg (by omega), if_pos (by omega), if_pos h1, if_pos (by omega)]; simp
  · by_cases h2 : i < off + c.size
    · rw [if_pos (by omega), if_pos h2, if_neg h1]; simp
    · rw [if_neg (by omega), if_neg h2]
      by_cases h3 : i < C.size
      · rw [if_pos (by omega)]; congr 1; omega
      · rw [if_neg (by omega), Array.getElem?_eq_none (by omega)]
theorem run_build_one {P : Program} (w : World) (t : TypeId) (fs : Array Field) (Z c : Array Value) (places : List (Nat × Nat)) (j off k : Nat) (hu : P.underlying t = some (.struct fs)) (hz : (P.info? t).map (·.zero) = some (some (.agg Z)))
    (hp : fs.toList.mapM (fun f => (P.info? f.type).map fun i => (f.offset, i.size)) = some places) (hj : places[j]? = some (off, k)) (hc : c.size = k) (hl : off + k ≤ Z.size) :
    (Instr.build t #[(j, .agg c)]).run P w = .ok (.agg (splice Z off c)) w := by
  obtain ⟨it, hi, hz⟩ := Option.map_eq_some_iff.1 hz
  refine run_build w t _ _ ?_
  have hl' : ¬ (Value.agg Z).cells.size < off + k := by show ¬ Z.size < off + k; omega
  have hf := fold_splice off c Z (by omega)
  unfold Program.built
  rw [hi, hu]
  simp only [hz, hp, Instr.fill, List.getElem?_toArray, hj]
  rw [if_neg (by simp only [Value.cells, hc, ne_eq, not_true_eq_false, decide_false, Bool.false_or, decide_eq_true_eq]; simpa [Value.cells] using hl')]
  exact congrArg some hf
end Go.Proofs.Ytffhfpdmfegcpac.turn
