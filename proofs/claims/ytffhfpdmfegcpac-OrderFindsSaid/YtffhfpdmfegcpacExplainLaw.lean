/- What order.Explain answers, as a law of lists. -/
import Derived.Test.YtffhfpdmfegcpacSpot
import Derived.Test.YtffhfpdmfegcpacBuild
namespace Go.Proofs.Ytffhfpdmfegcpac.find
open Go.ChangeShapes Go.WideShapes Go.ChangeAt Go.RowKit
open Go.Proofs.Ytffhfpdmfegcpac.base Go.Proofs.Ytffhfpdmfegcpac.flat Go.Proofs.Ytffhfpdmfegcpac.same Go.Proofs.Ytffhfpdmfegcpac.table Go.Proofs.Ytffhfpdmfegcpac.bank Go.Proofs.Ytffhfpdmfegcpac.atomic Go.Proofs.Ytffhfpdmfegcpac.memEq Go.Proofs.Ytffhfpdmfegcpac.play Go.Proofs.Ytffhfpdmfegcpac.told Go.Proofs.Ytffhfpdmfegcpac.turn
set_option linter.unusedVariables false
set_option linter.unusedSimpArgs false

/-- the sum of the lengths, as Go adds them up -/
def sumI (ls : List (List T5)) : Int := ls.foldl (fun s l => wrap64 (s + l.length)) 0
theorem sumI_snoc (ls : List (List T5)) (l : List T5) : sumI (ls ++ [l]) = wrap64 (sumI ls + l.length) := by simp [sumI]
def sumN : List (List T5) → Nat
  | [] => 0
  | l :: ls => l.length + sumN ls
/-- the first fault of logs -/
def firstT (most : Nat) : List (List T5) → Int
  | [] => 0
  | l :: ls => if toldE most l = 0 then firstT most ls else toldE most l
theorem firstT_snoc (most : Nat) (ls : List (List T5)) (l : List T5) : firstT most (ls ++ [l]) = if firstT most ls = 0 then toldE most l else firstT most ls := by
  induction ls with
  | nil => simp only [List.nil_append, firstT, if_true]; split <;> simp_all
  | cons x ls ih =>
    simp only [List.cons_append, firstT]
    by_cases h : toldE most x = 0
    · simp only [h, if_true]; exact ih
    · simp only [h, if_false]
theorem firstT_at {most : Nat} {ls : List (List T5)} {k : Nat} {l : List T5} (h : ls[k]? = some l) (h0 : firstT most (ls.take k) = 0) (hl : ¬ toldE most l = 0) : firstT most ls = toldE most l := by
  have e : ls = ls.take k ++ l :: ls.drop (k + 1) := by
    obtain ⟨hk, hx⟩ := List.getElem?_eq_some_iff.1 h
    rw [← hx, ← List.drop_eq_getElem_cons hk, List.take_append_drop]
  rw [e]
  generalize ls.take k = a at *
  generalize ls.drop (k + 1) = b
  clear e h
  induction a with
  | nil => simp only [List.nil_append, firstT]; rw [if_neg hl]
  | cons x a ih =>
    simp only [List.cons_append, firstT] at h0 ⊢
    by_cases hx : toldE most x = 0
    · rw [if_pos hx] at h0 ⊢; exact ih h0
    · rw [if_neg hx] at h0; exact absurd h0 hx
theorem firstT_all {most : Nat} {ls : List (List T5)} (h : firstT most ls = 0) : ∀ l ∈ ls, toldE most l = 0 := by
  induction ls with
  | nil => intro l hl; cases hl
  | cons x ls ih =>
    simp only [firstT] at h
    by_cases hx : toldE most x = 0
    · rw [if_pos hx] at h
      exact List.forall_mem_cons.2 ⟨hx, ih h⟩
    · rw [if_neg hx] at h; exact absurd h hx
theorem toldE_ok {most : Nat} {l : List T5} (h : toldE most l = 0) : l.length ≤ most ∧ ∀ x ∈ l, badOf x.d = 0 := by
  unfold toldE at h
  split at h
  · cases h
  · exact ⟨by omega, fun x hx => firstBad_mem h x.d (List.mem_map.2 ⟨x, hx, rfl⟩)⟩
def explE (logs : List (List T5)) : Int := if 8 < logs.length ∨ 12 < sumI logs then 2 else firstT 12 logs
def zeros8 : List Nat := List.replicate 8 0
def explS (m : List Int) (logs : List (List T5)) : Option (List Nat) := if explE logs = 0 then search logs (sumN logs) zeros8 m else none
def iL (s : Option (List Nat)) : List Int := (s.getD []).map fun i : Nat => (i : Int)
theorem sum_small : ∀ (ls : List (List T5)) (s : Nat), s + sumN ls ≤ 1000 → ls.foldl (fun (s : Int) (l : List T5) => wrap64 (s + l.length)) (s : Int) = ((s + sumN ls : Nat) : Int)
  | [], s, _ => rfl
  | l :: ls, s, h => by
    simp only [sumN] at h
    have e : wrap64 ((s : Int) + (l.length : Int)) = ((s + l.length : Nat) : Int) := by
      have : wrap64 ((s : Int) + (l.length : Int)) = (s : Int) + (l.length : Int) := by
        simp only [wrap64]; omega
      rw [this]; omega
    rw [List.foldl_cons, e, sum_small ls (s + l.length) (by omega)]
    simp only [sumN]
    rw [Nat.add_assoc]
theorem sumN_le {b : Nat} : ∀ (ls : List (List T5)), (∀ l ∈ ls, l.length ≤ b) → sumN ls ≤ ls.length * b
  | [], _ => Nat.zero_le _
  | l :: ls, h => by
    have h1 := h l (by simp)
    have h2 := sumN_le ls fun l hl => h l (by simp [hl])
    simp only [sumN, List.length_cons, Nat.succ_mul]
    omega
theorem left_zeros : ∀ (ls : List (List T5)) (n : Nat), leftL ls (List.replicate n 0) = sumN ls
  | [], _ => rfl
  | l :: ls, n => by
    have h1 : (List.replicate n 0).headD 0 = 0 := by cases n <;> rfl
    have h2 : (List.replicate n 0).tail = List.replicate (n - 1) 0 := by cases n <;> rfl
    simp only [leftL, sumN, h1, h2, left_zeros ls]
    omega
theorem explE_ok {logs : List (List T5)} (h : explE logs = 0) : logs.length ≤ 8 ∧ (∀ l ∈ logs, l.length ≤ 12 ∧ ∀ x ∈ l, badOf x.d = 0) ∧ sumI logs = (sumN logs : Int) ∧ sumN logs ≤ 12 := by
  unfold explE at h
  split at h
  · cases h
  · rename_i hn
    have h8 : logs.length ≤ 8 := Nat.le_of_not_lt fun h => hn (.inl h)
    have hall := firstT_all h
    have hs := sumN_le (b := 12) logs fun l hl => (toldE_ok (hall l hl)).1
    have h1 : sumN logs ≤ 96 := by omega
    have h2 : sumI logs = (sumN logs : Int) := by
      have := sum_small logs 0 (by omega)
      rw [Nat.zero_add] at this
      exact this
    refine ⟨h8, fun l hl => toldE_ok (hall l hl), h2, ?_⟩
    have h3 : ¬ 12 < sumI logs := fun h => hn (.inr h)
    omega
theorem fit_zeros {logs : List (List T5)} (h : logs.length ≤ 8) : Fit logs zeros8 := fun k l hl => by
  have hk := (List.getElem?_eq_some_iff.1 hl).1
  exact ⟨0, by unfold zeros8; rw [List.getElem?_replicate, if_pos (by omega)], Nat.zero_le _⟩
theorem spot_zeros {m : List Int} (hm : m.length = 64) (wm : AllU m) : SpotOk zeros8 m := ⟨rfl, hm, by decide, wm⟩
theorem built_spot {m : List Int} (hm : m.length = 64) (w : World) : (Instr.build 105 #[(1, .agg (memA m))]).run Try.prog w = .ok (.agg (spotA zeros8 m)) w := by
  have h := run_build_one (P := Try.prog) w 105 _ (spotA zeros8 zeroXs) (memA m) [(0, 8), (8, 64)] 1 8 64 Try.underlying105 (by kernel_rfl) (by kernel_rfl) rfl (by rw [size_memA, hm]) (by rw [spotA_size rfl zeroXs_len]; omega)
  rw [spotA_splice rfl zeroXs_len hm] at h
  exact h
end Go.Proofs.Ytffhfpdmfegcpac.find
