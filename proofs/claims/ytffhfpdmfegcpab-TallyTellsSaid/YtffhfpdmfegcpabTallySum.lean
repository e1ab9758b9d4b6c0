/- Counts of all nodes add up: plain Lean. -/
import Derived.Test.YtffhfpdmfegcpabTallyLaw
namespace Go.Proofs.Ytffhfpdmfegcpab.tally
open Go.Proofs.Ytffhfpdmfegcpab.base Go.Proofs.Ytffhfpdmfegcpab.table Go.Proofs.Ytffhfpdmfegcpab.told
set_option linter.unusedVariables false
set_option linter.unusedSimpArgs false

def sumTo (f : Nat → Int) : Nat → Int
  | 0 => 0
  | k + 1 => sumTo f k + f k
theorem sumTo_add (f g : Nat → Int) : ∀ n, sumTo (fun k => f k + g k) n = sumTo f n + sumTo g n
  | 0 => rfl
  | n + 1 => by simp only [sumTo, sumTo_add f g n]; omega
theorem sumTo_zero : ∀ n, sumTo (fun _ => 0) n = 0
  | 0 => rfl
  | n + 1 => by simp only [sumTo, sumTo_zero n]; rfl
theorem sumTo_congr {f g : Nat → Int} : ∀ n, (∀ k, k < n → f k = g k) → sumTo f n = sumTo g n
  | 0, _ => rfl
  | n + 1, h => by simp only [sumTo]; rw [sumTo_congr n fun k hk => h k (by omega), h n (by omega)]
theorem sumTo_one (z : Int) (c : Int) : ∀ n : Nat, sumTo (fun k => if z = (k : Int) then c else 0) n = if 0 ≤ z ∧ z < n then c else 0
  | 0 => by rw [if_neg (by omega)]; rfl
  | n + 1 => by
    simp only [sumTo]
    rw [sumTo_one z c n]
    by_cases h : 0 ≤ z ∧ z < n
    · rw [if_pos h, if_neg (by omega), if_pos (by omega)]; omega
    · rw [if_neg h]
      by_cases h2 : z = (n : Int)
      · rw [if_pos h2, if_pos (by omega)]; omega
      · rw [if_neg h2, if_neg (by omega)]; rfl
theorem sumTo_bd {f : Nat → Int} {B : Int} : ∀ n, (∀ k, k < n → 0 ≤ f k ∧ f k ≤ B) → 0 ≤ sumTo f n ∧ sumTo f n ≤ n * B
  | 0, _ => by simp [sumTo]
  | n + 1, h => by
    have h1 := sumTo_bd (f := f) (B := B) n fun k hk => h k (by omega)
    have h2 := h n (by omega)
    simp only [sumTo]
    have e : ((n + 1 : Nat) : Int) * B = n * B + B := by rw [Int.natCast_add, Int.add_mul]; simp
    rw [e]
    omega

def fourK (k : Nat) (ts : List E6) : Int := (cntL k ts).a + (cntL k ts).b + (cntL k ts).c + (cntL k ts).d
def wantL (ts : List E6) : Int := (ts.filter fun x => x.b).length
theorem wantL_snoc (ts : List E6) (x : E6) : wantL (ts ++ [x]) = wantL ts + if x.b = true then 1 else 0 := by
  unfold wantL
  rw [List.filter_append, List.length_append]
  by_cases h : x.b = true
  · simp [h]
  · simp [h]
theorem fourK_snoc (k : Nat) (ts : List E6) (x : E6) (h1 : 1 ≤ x.d.k) (h4 : x.d.k ≤ 4) : fourK k (ts ++ [x]) = fourK k ts + if x.d.n = (k : Int) then 1 else 0 := by
  unfold fourK cntL
  simp only [cntK_snoc]
  by_cases h : x.d.n = (k : Int)
  · simp only [h, if_true, true_and]
    obtain h5 | h5 | h5 | h5 : x.d.k = 1 ∨ x.d.k = 2 ∨ x.d.k = 3 ∨ x.d.k = 4 := by omega
    all_goals
      simp [h5]
      omega
  · simp [h]
theorem snoc_ind {α : Type} {p : List α → Prop} (h0 : p []) (h1 : ∀ l x, p l → p (l ++ [x])) : ∀ l, p l := by
  intro l
  have h : ∀ l : List α, p l.reverse := by
    intro l
    induction l with
    | nil => exact h0
    | cons x l ih => rw [List.reverse_cons]; exact h1 _ _ ih
  have := h l.reverse
  rwa [List.reverse_reverse] at this
def Fine (n : Nat) (ts : List E6) : Prop := ∀ x ∈ ts, (0 ≤ x.d.n ∧ x.d.n < n) ∧ 1 ≤ x.d.k ∧ x.d.k ≤ 4
theorem sum_four (n : Nat) : ∀ ts, Fine n ts → sumTo (fun k => fourK k ts) n = ts.length := by
  refine snoc_ind ?_ ?_
  · intro _
    show sumTo (fun k => 0) n = _
    rw [sumTo_zero]; rfl
  · intro l x ih h
    obtain ⟨hx, h1, h4⟩ := h x (by simp)
    rw [sumTo_congr (g := fun k => fourK k l + if x.d.n = (k : Int) then 1 else 0) n fun k _ => fourK_snoc k l x h1 h4, sumTo_add, sumTo_one, if_pos hx, ih fun y hy => h y (by simp [hy])]
    simp
theorem sum_logs (n : Nat) : ∀ ts, Fine n ts → sumTo (fun k => (nodeT k ts).length) n = ts.length := by
  refine snoc_ind ?_ ?_
  · intro _
    show sumTo (fun k => 0) n = _
    rw [sumTo_zero]; rfl
  · intro l x ih h
    obtain ⟨hx, h1, h4⟩ := h x (by simp)
    rw [sumTo_congr (g := fun k => (((nodeT k l).length : Nat) : Int) + if x.d.n = (k : Int) then 1 else 0) n fun k _ => by
      rw [nodeT_snoc, List.length_append]
      by_cases h : x.d.n = (k : Int)
      · simp [h]
      · simp [h], sumTo_add, sumTo_one, if_pos hx, ih fun y hy => h y (by simp [hy])]
    simp
theorem sum_by (n : Nat) : ∀ ts, Fine n ts → sumTo (fun k => (cntL k ts).e) n = wantL ts := by
  refine snoc_ind ?_ ?_
  · intro _
    show sumTo (fun k => 0) n = _
    rw [sumTo_zero]; rfl
  · intro l x ih h
    obtain ⟨hx, h1, h4⟩ := h x (by simp)
    rw [sumTo_congr (g := fun k => (cntL k l).e + if x.d.n = (k : Int) then (if x.b = true then 1 else 0) else 0) n fun k _ => by
      show cntB k (l ++ [x]) = cntB k l + _
      rw [cntB_snoc]
      by_cases h : x.d.n = (k : Int)
      · simp [h]
      · simp [h], sumTo_add, sumTo_one, if_pos hx, ih fun y hy => h y (by simp [hy]), wantL_snoc]
theorem fine_of {n : Int} {ts : List E6} (h : ∀ (i : Nat) (x : E6), ts[i]? = some x → Go.Proofs.Ytffhfpdmfegcpab.atomic.rightE x.d.n x.d.k x.d.a x.d.v = 0 ∧ x.d.n < n) (hn : 0 ≤ n) : Fine n.toNat ts := by
  intro x hx
  obtain ⟨i, hi⟩ := List.mem_iff_getElem?.1 hx
  obtain ⟨h1, h2⟩ := h i x hi
  have h3 := Go.Proofs.Ytffhfpdmfegcpab.atomic.right_pos h1
  exact ⟨⟨h3.1.1, by omega⟩, h3.2.1⟩
theorem four_bd (k : Nat) (ts : List E6) : 0 ≤ fourK k ts ∧ fourK k ts ≤ 4 * ts.length := by
  have h0 := cnt_bd k ts 0
  have h1 := cnt_bd k ts 1
  have h2 := cnt_bd k ts 2
  have h3 := cnt_bd k ts 3
  unfold fourK
  simp only [C5.nth] at h0 h1 h2 h3
  omega
end Go.Proofs.Ytffhfpdmfegcpab.tally
