/- What the law's own loop over the programs answers is what Keeps answers: plain Lean. -/
import Derived.Test.YtffhfpdmfegcpabEqDeed
namespace Go.Proofs.Ytffhfpdmfegcpab.told
open Go.ChangeShapes Go.WideShapes Go.ChangeAt Go.RowKit
open Go.Proofs.Ytffhfpdmfegcpab.base Go.Proofs.Ytffhfpdmfegcpab.table Go.Proofs.Ytffhfpdmfegcpab.play Go.Proofs.Ytffhfpdmfegcpab.eqDeed
set_option linter.unusedVariables false
set_option linter.unusedSimpArgs false

/-- node k's deeds, in their order -/
def mine (k : Nat) (l : List T5) : List D4 := (l.filter fun x => decide (x.d.n = (k : Int))).map (·.d)
def have_ (ps : List (List D4)) (k : Nat) : List D4 := ps.getD k []
theorem mine_len (k : Nat) (l : List T5) : (mine k l).length = cnt k l := by simp [mine, cnt]
theorem mine_le (k : Nat) (l : List T5) : (mine k l).length ≤ l.length := by rw [mine_len]; exact cnt_le k l
theorem mine_snoc (k : Nat) (l : List T5) (x : T5) : mine k (l ++ [x]) = mine k l ++ if x.d.n = (k : Int) then [x.d] else [] := by
  unfold mine
  rw [List.filter_append, List.map_append]
  by_cases h : x.d.n = (k : Int)
  · simp [h]
  · simp [h]
theorem mine_append (k : Nat) (l l' : List T5) : mine k (l ++ l') = mine k l ++ mine k l' := by simp [mine]
theorem mine_mem {k : Nat} {l : List T5} {y : D4} (h : y ∈ mine k l) : ∃ x ∈ l, y = x.d := by
  unfold mine at h
  obtain ⟨x, hx, rfl⟩ := List.mem_map.1 h
  exact ⟨x, (List.mem_filter.1 hx).1, rfl⟩
/-- what the law's loop has found when k programs have been looked at -/
def upto (ps : List (List D4)) (ts : List T5) (K : Nat) : Prop := ∀ k, k < K → (mine k ts).length ≤ (have_ ps k).length ∧ mine k ts = (have_ ps k).take (mine k ts).length
noncomputable def uptoB (ps : List (List D4)) (ts : List T5) (K : Nat) : Bool := @decide (upto ps ts K) (Classical.propDecidable _)
theorem uptoB_zero (ps : List (List D4)) (ts : List T5) : uptoB ps ts 0 = true := by
  unfold uptoB; exact @decide_eq_true _ (Classical.propDecidable _) fun k hk => absurd hk (by omega)
theorem uptoB_false {ps : List (List D4)} {ts : List T5} {K : Nat} (h : uptoB ps ts K = false) : uptoB ps ts (K + 1) = false := by
  unfold uptoB at *
  have h1 : ¬ upto ps ts K := fun h2 => by rw [@decide_eq_true _ (Classical.propDecidable _) h2] at h; cases h
  exact @decide_eq_false _ (Classical.propDecidable _) fun h2 => h1 fun k hk => h2 k (by omega)
theorem uptoB_long {ps : List (List D4)} {ts : List T5} {K : Nat} (h : (have_ ps K).length < (mine K ts).length) : uptoB ps ts (K + 1) = false := by
  unfold uptoB
  exact @decide_eq_false _ (Classical.propDecidable _) fun h2 => by have := (h2 K (by omega)).1; omega
theorem uptoB_next {ps : List (List D4)} {ts : List T5} {K : Nat} (h : uptoB ps ts K = true) (hl : (mine K ts).length ≤ (have_ ps K).length) : uptoB ps ts (K + 1) = eqL (mine K ts) ((have_ ps K).take (mine K ts).length) := by
  unfold uptoB at *
  have h1 : upto ps ts K := @of_decide_eq_true _ (Classical.propDecidable _) h
  by_cases he : mine K ts = (have_ ps K).take (mine K ts).length
  · rw [eqL_yes he]
    exact @decide_eq_true _ (Classical.propDecidable _) fun k hk => by
      by_cases hkK : k < K
      · exact h1 k hkK
      · obtain rfl : k = K := by omega
        exact ⟨hl, he⟩
  · rw [eqL_no he]
    exact @decide_eq_false _ (Classical.propDecidable _) fun h2 => he (h2 K (by omega)).2

theorem prefix_snoc {m p : List D4} {x : D4} (h : m = p.take m.length) (hl : m.length ≤ p.length) (hx : p[m.length]? = some x) : m ++ [x] = p.take (m ++ [x]).length ∧ (m ++ [x]).length ≤ p.length := by
  have hlt := (List.getElem?_eq_some_iff.1 hx).1
  refine ⟨?_, by simp; omega⟩
  rw [List.length_append]
  show m ++ [x] = p.take (m.length + 1)
  rw [List.take_add_one, hx, ← h]
  rfl

theorem order_law {ps : List (List D4)} {ts : List T5} (hn : ∀ x ∈ ts, 0 ≤ x.d.n ∧ x.d.n ≤ 7) : keepsB ps ts = uptoB ps ts 8 := by
  have fwd : KeepsP ps ts → ∀ i, i ≤ ts.length → ∀ k, mine k (ts.take i) = (have_ ps k).take (mine k (ts.take i)).length ∧ (mine k (ts.take i)).length ≤ (have_ ps k).length := by
    intro hk i
    induction i with
    | zero => intro _ k; simp [mine]
    | succ i ih =>
      intro hi k
      obtain ⟨x, hx⟩ := get_some (xs := ts) (k := i) (by omega)
      have hmem := hn x (List.mem_of_getElem? hx)
      obtain ⟨h1, h2⟩ := ih (by omega) k
      rw [take_snoc hx, mine_snoc]
      by_cases he : x.d.n = (k : Int)
      · rw [if_pos he]
        obtain ⟨p, y, hp, hy, rfl⟩ := hk i x hx
        have hkn : x.d.n.toNat = k := by rw [he]; rfl
        rw [hkn] at hp hy
        have hh : have_ ps k = p := by unfold have_; rw [List.getD_eq_getElem?_getD, hp]; rfl
        rw [hh] at h1 h2 ⊢
        rw [← mine_len] at hy
        exact prefix_snoc h1 h2 hy
      · rw [if_neg he, List.append_nil]; exact ⟨h1, h2⟩
  have bwd : upto ps ts 8 → KeepsP ps ts := by
    intro hu i x hx
    have hmem := hn x (List.mem_of_getElem? hx)
    obtain ⟨hl, hm⟩ := hu x.d.n.toNat (by omega)
    have e : ts = ts.take i ++ x :: ts.drop (i + 1) := by
      obtain ⟨hk, hx⟩ := List.getElem?_eq_some_iff.1 hx
      rw [← hx, ← List.drop_eq_getElem_cons hk, List.take_append_drop]
    have hxn : x.d.n = (x.d.n.toNat : Int) := by omega
    generalize x.d.n.toNat = k at *
    have e2 : mine k ts = mine k (ts.take i) ++ x.d :: mine k (ts.drop (i + 1)) := by
      have : mine k ts = mine k (ts.take i ++ ([x] ++ ts.drop (i + 1))) := by rw [List.singleton_append, ← e]
      rw [this, mine_append, mine_append]
      congr 1
      have h1 : mine k [x] = [x.d] := by
        unfold mine
        rw [List.filter_cons_of_pos (by exact decide_eq_true hxn)]
        rfl
      rw [h1]; rfl
    have e3 : (have_ ps k)[(mine k (ts.take i)).length]? = some x.d := by
      have h1 : (mine k ts)[(mine k (ts.take i)).length]? = some x.d := by rw [e2]; simp
      rw [hm, List.getElem?_take] at h1
      split at h1
      · exact h1
      · cases h1
    unfold have_ at e3
    rw [List.getD_eq_getElem?_getD] at e3
    cases hp : ps[k]? with
    | none => rw [hp] at e3; simp at e3
    | some p =>
      rw [hp] at e3
      refine ⟨p, x.d, ?_, ?_, rfl⟩
      · rw [hxn]; exact hp
      · rw [hxn]; show p[cnt k (ts.take i)]? = _; rw [← mine_len]; exact e3
  unfold keepsB uptoB
  by_cases h : KeepsP ps ts
  · rw [@decide_eq_true _ (Classical.propDecidable _) h]
    refine (@decide_eq_true _ (Classical.propDecidable _) fun k _ => ?_).symm
    have := fwd h ts.length (Nat.le_refl _) k
    rw [List.take_length] at this
    exact ⟨this.2, this.1⟩
  · rw [@decide_eq_false _ (Classical.propDecidable _) h]
    exact (@decide_eq_false _ (Classical.propDecidable _) fun h2 => h (bwd h2)).symm
end Go.Proofs.Ytffhfpdmfegcpab.told
