/- The lines of a right cache: each is found, and no two are the same. Plain Lean. -/
import Derived.Test.YtffhfpdmfegcpabCacheLinesC
namespace Go.Proofs.Ytffhfpdmfegcpab.ways
open Go.Proofs.Ytffhfpdmfegcpab.base Go.Proofs.Ytffhfpdmfegcpab.prog
set_option linter.unusedVariables false
set_option linter.unusedSimpArgs false

theorem way_apart {ws : List W6} (h : ∀ (i : Nat) (x : W6), ws[i]? = some x → wayF ws i x = 0) {i j : Nat} {x y : W6} (hij : i < j) (hx : ws[i]? = some x) (hy : ws[j]? = some y) (sx : ¬ x.s = 0) (sy : ¬ y.s = 0) : ¬ x.l = y.l := by
  intro e
  have h1 := (wayF_ok (h j y hy)).2 sy
  rcases findW_cases y.l (ws.take j) with ⟨_, h2⟩ | ⟨p, z, h2, _⟩
  · have hm : x ∈ ws.take j := by
      apply List.mem_of_getElem? (i := i)
      rw [List.getElem?_take, if_pos hij]; exact hx
    have := h2 x hm
    unfold hasL at this
    exact of_decide_eq_false this ⟨sx, e⟩
  · omega
theorem find_own {ws : List W6} (h : ∀ (i : Nat) (x : W6), ws[i]? = some x → wayF ws i x = 0) {k : Nat} {x : W6} (hx : ws[k]? = some x) (sx : ¬ x.s = 0) : findW x.l ws = k := by
  rcases findW_cases x.l ws with ⟨_, h2⟩ | ⟨p, z, h2, hz, h3, h4⟩
  · have := h2 x (List.mem_of_getElem? hx)
    unfold hasL at this
    exact absurd ⟨sx, rfl⟩ (of_decide_eq_false this)
  · unfold hasL at h3
    have h5 := of_decide_eq_true h3
    rw [h2]
    by_cases e : p = k
    · rw [e]
    · exfalso
      rcases Nat.lt_or_gt_of_ne e with hlt | hgt
      · exact way_apart h hlt hz hx h5.1 sx h5.2
      · have := h4 k x hgt hx
        unfold hasL at this
        exact of_decide_eq_false this ⟨sx, rfl⟩
theorem row_pair {ws : List W6} (h : ∀ (i : Nat) (x : W6), ws[i]? = some x → wayF ws i x = 0) : (ws.filter hereW).Pairwise (fun a b => ¬ a.l = b.l) := by
  rw [List.pairwise_filter, List.pairwise_iff_getElem]
  intro i j hi hj hij h1 h2
  exact way_apart h hij (List.getElem?_eq_getElem hi) (List.getElem?_eq_getElem hj) (of_decide_eq_true h1) (of_decide_eq_true h2)
theorem lines_pair {cs cy : Int} : ∀ (rs : List R4) (s : Nat), (∀ (i : Nat) (r : R4), rs[i]? = some r → rowF cs cy (s + i) r = 0) → (linesW rs).Pairwise (fun a b => ¬ a.l = b.l)
  | [], _, _ => by simp [linesW]
  | r :: rs, s, h => by
    have e : linesW (r :: rs) = r.ways.filter hereW ++ linesW rs := by simp [linesW]
    have h0 := rowF_ok (h 0 r rfl)
    rw [e, List.pairwise_append]
    refine ⟨row_pair (rowE_ways h0.1).2, lines_pair (cs := cs) (cy := cy) rs (s + 1) fun i r hr => ?_, fun a ha b hb => ?_⟩
    · have := h (i + 1) r (by simpa using hr)
      rwa [show s + 1 + i = s + (i + 1) by omega]
    · obtain ⟨ha1, ha2⟩ := List.mem_filter.1 ha
      have qa := h0.2 a ha1 (of_decide_eq_true ha2)
      unfold linesW at hb
      obtain ⟨r2, hr2, hb2⟩ := List.mem_flatMap.1 hb
      obtain ⟨hb3, hb4⟩ := List.mem_filter.1 hb2
      obtain ⟨i, hi⟩ := List.mem_iff_getElem?.1 hr2
      have qb := (rowF_ok (h (i + 1) r2 (by simpa using hi))).2 b hb3 (of_decide_eq_true hb4)
      intro e
      rw [e, qb] at qa
      omega
/-- where a line of a right cache is -/
theorem line_at {cn cs cy cb : Int} {rs : List R4} (h0 : cacheE cn cs cy cb rs = 0) {x : W6} (hx : x ∈ linesW rs) : ∃ (i k : Nat) (r : R4), (0 ≤ x.l ∧ x.l ≤ 15) ∧ x.l % cs = i ∧ rs[i]? = some r ∧ findW x.l r.ways = k ∧ r.ways[k]? = some x := by
  obtain ⟨hc, hl, hrow⟩ := cacheE_ok h0
  unfold linesW at hx
  obtain ⟨r, hr, hx2⟩ := List.mem_flatMap.1 hx
  obtain ⟨hx3, hx4⟩ := List.mem_filter.1 hx2
  obtain ⟨i, hi⟩ := List.mem_iff_getElem?.1 hr
  obtain ⟨k, hk⟩ := List.mem_iff_getElem?.1 hx3
  have h1 := rowF_ok (hrow i r hi)
  exact ⟨i, k, r, rowE_lines h1.1 x hx3, h1.2 x hx3 (of_decide_eq_true hx4), hi, find_own (rowE_ways h1.1).2 hk (of_decide_eq_true hx4), hk⟩
theorem line_new {cn cs cy cb : Int} {rs : List R4} (h0 : cacheE cn cs cy cb rs = 0) {i : Nat} {x : W6} (hx : (linesW rs)[i]? = some x) : ∀ z ∈ (linesW rs).take i, ¬ z.l = x.l := by
  obtain ⟨hc, hl, hrow⟩ := cacheE_ok h0
  have hp := lines_pair rs 0 fun i r hr => by rw [Nat.zero_add]; exact hrow i r hr
  rw [List.pairwise_iff_getElem] at hp
  intro z hz
  obtain ⟨j, hj⟩ := List.mem_iff_getElem?.1 hz
  rw [List.getElem?_take] at hj
  split at hj
  · rename_i hji
    obtain ⟨hj1, hj2⟩ := List.getElem?_eq_some_iff.1 hj
    obtain ⟨hi1, hi2⟩ := List.getElem?_eq_some_iff.1 hx
    have := hp j i hj1 hi1 hji
    rw [hj2, hi2] at this
    exact this
  · cases hj
theorem lines_ok_mem {rs : List R4} (hrs : ∀ r ∈ rs, r.Ok) : ∀ x ∈ linesW rs, x.Ok := fun x hx => by
  unfold linesW at hx
  obtain ⟨r, hr, hx2⟩ := List.mem_flatMap.1 hx
  exact hrs r hr x (List.mem_filter.1 hx2).1
theorem lines_most {cn cs cy cb : Int} {rs : List R4} (h0 : cacheE cn cs cy cb rs = 0) : ((linesW rs).length : Int) ≤ cs * cy := by
  obtain ⟨hc, hl, hrow⟩ := cacheE_ok h0
  have key : ∀ (l : List R4), (∀ r ∈ l, (r.ways.length : Int) = cy) → ((linesW l).length : Int) ≤ (l.length : Int) * cy := by
    intro l
    induction l with
    | nil => intro _; simp [linesW]
    | cons r l ih =>
      intro h
      have h1 := ih fun r hr => h r (by simp [hr])
      have h2 := h r (by simp)
      have h3 : (r.ways.filter hereW).length ≤ r.ways.length := List.length_filter_le _ _
      have e : linesW (r :: l) = r.ways.filter hereW ++ linesW l := by simp [linesW]
      rw [e, List.length_append, List.length_cons]
      have e2 : (((l.length + 1 : Nat) : Int)) * cy = (l.length : Int) * cy + cy := by
        rw [Int.natCast_add, Int.add_mul]; simp
      rw [e2]
      omega
  rw [← hl]
  exact key rs fun r hr => by
    obtain ⟨i, hi⟩ := List.mem_iff_getElem?.1 hr
    exact (rowE_ways (rowF_ok (hrow i r hi)).1).1
end Go.Proofs.Ytffhfpdmfegcpab.ways
