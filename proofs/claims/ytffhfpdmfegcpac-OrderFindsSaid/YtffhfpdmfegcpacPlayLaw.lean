/- Lists of deeds in memory alone: plain Lean. -/
import Derived.Test.YtffhfpdmfegcpacTable
import Derived.Test.YtffhfpdmfegcpacAtomicDo
namespace Go.Proofs.Ytffhfpdmfegcpac.play
open Go.ChangeShapes Go.WideShapes Go.ChangeAt Go.RowKit
open Go.Proofs.Ytffhfpdmfegcpac.base Go.Proofs.Ytffhfpdmfegcpac.flat Go.Proofs.Ytffhfpdmfegcpac.same Go.Proofs.Ytffhfpdmfegcpac.addr Go.Proofs.Ytffhfpdmfegcpac.bank Go.Proofs.Ytffhfpdmfegcpac.atomic Go.Proofs.Ytffhfpdmfegcpac.table
set_option linter.unusedVariables false
set_option linter.unusedSimpArgs false

def badOf (x : D4) : Int := rightE x.n x.k x.a x.v
/-- the first fault of a list -/
def firstBad : List D4 → Int
  | [] => 0
  | x :: l => if badOf x = 0 then firstBad l else badOf x
def playM (xs : List Int) (l : List D4) : List Int := l.foldl (fun m x => plainM m x.k x.a x.v) xs
def playV (xs : List Int) : List D4 → List Int
  | [] => []
  | x :: l => plainV xs x.k x.a :: playV (plainM xs x.k x.a x.v) l

theorem playM_len (xs : List Int) : ∀ l : List D4, (playM xs l).length = xs.length := by
  intro l
  induction l generalizing xs with
  | nil => rfl
  | cons x l ih => exact (ih _).trans (plainM_len _ _ _ _)
theorem playM_snoc (xs : List Int) (l : List D4) (x : D4) : playM xs (l ++ [x]) = plainM (playM xs l) x.k x.a x.v := by
  simp [playM, List.foldl_append]
theorem playV_snoc (xs : List Int) (l : List D4) (x : D4) : playV xs (l ++ [x]) = playV xs l ++ [plainV (playM xs l) x.k x.a] := by
  induction l generalizing xs with
  | nil => rfl
  | cons y l ih => show _ :: playV _ (l ++ [x]) = _; rw [ih]; rfl
theorem playV_len (xs : List Int) : ∀ l : List D4, (playV xs l).length = l.length := by
  intro l
  induction l generalizing xs with
  | nil => rfl
  | cons x l ih => simp [playV, ih]
theorem firstBad_snoc (l : List D4) (x : D4) : firstBad (l ++ [x]) = if firstBad l = 0 then badOf x else firstBad l := by
  induction l with
  | nil => simp only [List.nil_append, firstBad]; split <;> simp_all
  | cons y l ih =>
    show (if badOf y = 0 then firstBad (l ++ [x]) else badOf y) = _
    rw [ih]
    simp only [firstBad]
    by_cases h : badOf y = 0
    · simp [h]
    · simp [h]
theorem firstBad_append (l l' : List D4) : firstBad (l ++ l') = if firstBad l = 0 then firstBad l' else firstBad l := by
  induction l with
  | nil => simp [firstBad]
  | cons y l ih =>
    show (if badOf y = 0 then firstBad (l ++ l') else badOf y) = _
    rw [ih]
    simp only [firstBad]
    by_cases h : badOf y = 0
    · simp [h]
    · simp [h]
theorem take_snoc {α} {l : List α} {k : Nat} {x : α} (h : l[k]? = some x) : l.take (k + 1) = l.take k ++ [x] := by
  rw [List.take_add_one, h]; rfl
theorem firstBad_at {l : List D4} {k : Nat} {x : D4} (h : l[k]? = some x) (h0 : firstBad (l.take k) = 0) (hx : ¬ badOf x = 0) : firstBad l = badOf x := by
  have e : l = l.take k ++ x :: l.drop (k + 1) := by
    obtain ⟨hk, hx⟩ := List.getElem?_eq_some_iff.1 h
    rw [← hx, ← List.drop_eq_getElem_cons hk, List.take_append_drop]
  rw [e, firstBad_append, if_pos h0]
  simp [firstBad, hx]
theorem firstBad_mem {l : List D4} (h : firstBad l = 0) : ∀ x ∈ l, badOf x = 0 := by
  induction l with
  | nil => intro x hx; cases hx
  | cons y l ih =>
    have h' : (if badOf y = 0 then firstBad l else badOf y) = 0 := h
    split at h'
    · rename_i hy
      intro x hx
      rcases List.mem_cons.1 hx with rfl | hx
      · exact hy
      · exact ih h' x hx
    · contradiction
end Go.Proofs.Ytffhfpdmfegcpac.play
