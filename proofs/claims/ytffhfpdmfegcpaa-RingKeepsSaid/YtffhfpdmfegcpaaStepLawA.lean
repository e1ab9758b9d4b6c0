/- A step of a ring, as a law of lists. -/
import Derived.Test.YtffhfpdmfegcpaaRingBaseA
namespace Go.Proofs.Ytffhfpdmfegcpaa.slot
open Go.ChangeShapes Go.WideShapes Go.ChangeAt Go.RowKit
open Go.Proofs.Ytffhfpdmfegcpaa.base Go.Proofs.Ytffhfpdmfegcpaa.flat Go.Proofs.Ytffhfpdmfegcpaa.table Go.Proofs.Ytffhfpdmfegcpaa.addr
set_option linter.unusedVariables false
set_option linter.unusedSimpArgs false

/-- a ring that is right -/
structure RingOK (cn : Int) (xs : List S4) : Prop where
  inn : ∀ x ∈ xs, x.In cn
  idle : ∀ x ∈ xs, x.full = false → x.by_ = 0 ∧ x.wait = 0
  uniq : xs.Pairwise fun x y => x.full = true → y.full = true → x.by_ ≠ y.by_
theorem slotE_zero {nodes : Int} {pre : List S4} {x : S4} : slotE nodes pre x = 0 ↔ x.In nodes ∧ (x.full = false → x.by_ = 0 ∧ x.wait = 0) ∧ (x.full = true → byB pre x.by_ = false) := by
  unfold slotE
  by_cases h1 : x.In nodes
  · rw [if_neg (fun h => h h1)]
    cases hf : x.full with
    | false =>
      rw [if_pos rfl]
      by_cases h2 : x.by_ = 0 ∧ x.wait = 0
      · rw [if_pos h2]; simp [h1, h2]
      · rw [if_neg h2]; simp [h1, h2]
    | true =>
      rw [if_neg (by decide)]
      cases hb : byB pre x.by_ with
      | true => simp [h1]
      | false => simp [h1]
  · rw [if_pos h1]; simp [h1]
theorem ringL_all {nodes : Int} : ∀ (l pre : List S4), ringL nodes pre l = 0 → ∀ (i : Nat) (y : S4), l[i]? = some y → slotE nodes (pre ++ l.take i) y = 0
  | [], pre, h, i, y, hy => by simp at hy
  | x :: l, pre, h, 0, y, hy => by
    obtain rfl : x = y := by simpa using hy
    unfold ringL at h
    by_cases h0 : slotE nodes pre x = 0
    · simpa using h0
    · rw [if_neg h0] at h; exact absurd h h0
  | x :: l, pre, h, i + 1, y, hy => by
    unfold ringL at h
    by_cases h0 : slotE nodes pre x = 0
    · rw [if_pos h0] at h
      have := ringL_all l (pre ++ [x]) h i y (by simpa using hy)
      simpa [List.append_assoc] using this
    · rw [if_neg h0] at h; exact absurd h h0
theorem byB_false {xs : List S4} {node : Int} : byB xs node = false ↔ ∀ x ∈ xs, x.full = true → x.by_ ≠ node := by
  unfold byB
  rw [List.any_eq_false]
  unfold S4.of
  simp
theorem ringOK_iff {cn : Int} {xs : List S4} : ringL cn [] xs = 0 ↔ RingOK cn xs := by
  constructor
  · intro h
    have h := fun i y hy => slotE_zero.1 (ringL_all xs [] h i y hy)
    refine ⟨?_, ?_, ?_⟩
    · intro x hx
      obtain ⟨i, hi, e⟩ := List.getElem_of_mem hx
      exact (h i x (by rw [← e]; exact List.getElem?_eq_getElem hi)).1
    · intro x hx
      obtain ⟨i, hi, e⟩ := List.getElem_of_mem hx
      exact (h i x (by rw [← e]; exact List.getElem?_eq_getElem hi)).2.1
    · rw [List.pairwise_iff_getElem]
      intro i j hi hj hij fi fj
      have := byB_false.1 ((h j _ (List.getElem?_eq_getElem hj)).2.2 fj)
      exact this xs[i] (by
        rw [List.nil_append]
        rw [List.mem_take_iff_getElem]
        exact ⟨i, by omega, rfl⟩) fi
  · intro h
    refine ringL_ok fun i y hy => slotE_zero.2 ⟨h.inn y (List.mem_of_getElem? hy), h.idle y (List.mem_of_getElem? hy), fun hf => byB_false.2 fun x hx fx => ?_⟩
    obtain ⟨j, hj, e⟩ := List.mem_take_iff_getElem.1 hx
    obtain ⟨hi, ey⟩ := List.getElem?_eq_some_iff.1 hy
    have := List.pairwise_iff_getElem.1 h.uniq j i (by omega) hi (by omega)
    rw [e, ey] at this
    exact this fx hf
theorem ringE_ok {cn cs cy cb : Int} {xs : List S4} (hc : CfgOK cn cs cy cb) (h1 : 1 ≤ xs.length) (h8 : xs.length ≤ 8) (h : RingOK cn xs) : ringE cn cs cy cb xs = 0 := by
  unfold ringE
  rw [if_pos (cfgE_ok hc), if_neg (by omega)]
  exact ringOK_iff.2 h

/-- the next node -/
def stepAt (cn a : Int) : Int := if a + 1 = cn then 0 else a + 1
def S4.step (cn : Int) (x : S4) : S4 :=
  if 0 < x.wait then ⟨x.at_, x.full, x.by_, x.wait - 1⟩
  else if x.full = true ∧ x.by_ = stepAt cn x.at_ then ⟨stepAt cn x.at_, false, 0, x.wait⟩
  else ⟨stepAt cn x.at_, x.full, x.by_, x.wait⟩
def S4.tells (cn : Int) (x : S4) : Bool := decide (x.wait ≤ 0) && (x.full && decide (x.by_ = stepAt cn x.at_))
def stepL (cn : Int) (xs : List S4) : List S4 := xs.map (S4.step cn)
def toldL (cn : Int) (xs : List S4) : List Int := (xs.filter fun x : S4 => x.tells cn).map S4.by_
theorem len_stepL (cn : Int) (xs : List S4) : (stepL cn xs).length = xs.length := by simp [stepL]
theorem stepAt_in {cn a : Int} (h2 : 2 ≤ cn) (h : 0 ≤ a ∧ a ≤ cn - 1) : 0 ≤ stepAt cn a ∧ stepAt cn a ≤ cn - 1 := by
  unfold stepAt; split <;> omega
theorem S4.step_in {cn : Int} {x : S4} (h2 : 2 ≤ cn) (h : x.In cn) : (x.step cn).In cn := by
  obtain ⟨ha, hb, hw⟩ := h
  have := stepAt_in h2 ha
  unfold S4.step
  split
  · exact ⟨ha, hb, by show 0 ≤ x.wait - 1 ∧ x.wait - 1 ≤ 9; omega⟩
  · split
    · exact ⟨this, by show (0 : Int) ≤ 0 ∧ (0 : Int) ≤ cn - 1; omega, hw⟩
    · exact ⟨this, hb, hw⟩
theorem S4.step_full {cn : Int} {x : S4} (h : (x.step cn).full = true) : x.full = true ∧ (x.step cn).by_ = x.by_ := by
  unfold S4.step at h ⊢
  split at h
  · rename_i h1; rw [if_pos h1]; exact ⟨h, rfl⟩
  · rename_i h1
    rw [if_neg h1]
    split at h
    · cases h
    · rename_i h2; rw [if_neg h2]; exact ⟨h, rfl⟩
theorem S4.step_idle {cn : Int} {x : S4} (hin : x.In cn) (hi : x.full = false → x.by_ = 0 ∧ x.wait = 0) (h : (x.step cn).full = false) : (x.step cn).by_ = 0 ∧ (x.step cn).wait = 0 := by
  obtain ⟨ha, hb, hw⟩ := hin
  unfold S4.step at h ⊢
  split at h
  · rename_i h1
    have := (hi h).2
    omega
  · rename_i h1
    rw [if_neg h1]
    split at h
    · rename_i h2; rw [if_pos h2]; exact ⟨rfl, by show x.wait = 0; omega⟩
    · rename_i h2; rw [if_neg h2]; exact hi h
theorem stepL_ok {cn : Int} {xs : List S4} (h2 : 2 ≤ cn) (h : RingOK cn xs) : RingOK cn (stepL cn xs) := by
  refine ⟨?_, ?_, ?_⟩
  · intro x hx
    obtain ⟨y, hy, rfl⟩ := List.mem_map.1 hx
    exact S4.step_in h2 (h.inn y hy)
  · intro x hx hf
    obtain ⟨y, hy, rfl⟩ := List.mem_map.1 hx
    exact S4.step_idle (h.inn y hy) (h.idle y hy) hf
  · unfold stepL
    rw [List.pairwise_map]
    refine h.uniq.imp fun {x y} hxy hx hy => ?_
    obtain ⟨fx, ex⟩ := S4.step_full hx
    obtain ⟨fy, ey⟩ := S4.step_full hy
    rw [ex, ey]
    exact hxy fx fy
theorem tells_full {cn : Int} {x : S4} (h : x.tells cn = true) : x.full = true ∧ x.wait ≤ 0 ∧ x.by_ = stepAt cn x.at_ := by
  unfold S4.tells at h
  simp only [Bool.and_eq_true, decide_eq_true_eq] at h
  exact ⟨h.2.1, h.1, h.2.2⟩
theorem toldL_nodup {cn : Int} {xs : List S4} (h : RingOK cn xs) : (toldL cn xs).Nodup := by
  unfold toldL List.Nodup
  rw [List.pairwise_map]
  rw [List.pairwise_filter]
  refine h.uniq.imp fun {x y} hxy hx hy => ?_
  exact hxy (tells_full hx).1 (tells_full hy).1
theorem toldL_in {cn : Int} {xs : List S4} (h : RingOK cn xs) : ∀ k ∈ toldL cn xs, 0 ≤ k ∧ k ≤ cn - 1 := by
  intro k hk
  obtain ⟨x, hx, rfl⟩ := List.mem_map.1 hk
  exact (h.inn x (List.mem_filter.1 hx).1).2.1
/-- sorted -/
def sortI (l : List Int) : List Int := l.mergeSort fun x y => decide (x ≤ y)
/-- the numbers from 0 to 7 that are there -/
def ascL (l : List Int) : List Int := ((List.range 8).filter fun k : Nat => decide ((k : Int) ∈ l)).map fun k : Nat => (k : Int)
theorem mem_ascL {l : List Int} {k : Int} : k ∈ ascL l ↔ k ∈ l ∧ 0 ≤ k ∧ k < 8 := by
  unfold ascL
  simp only [List.mem_map, List.mem_filter, List.mem_range, decide_eq_true_eq]
  constructor
  · rintro ⟨n, ⟨h8, hm⟩, rfl⟩; exact ⟨hm, by omega, by omega⟩
  · rintro ⟨hm, h0, h8⟩
    exact ⟨k.toNat, ⟨by omega, by rw [Int.toNat_of_nonneg h0]; exact hm⟩, Int.toNat_of_nonneg h0⟩
theorem sort_asc {l : List Int} (hn : l.Nodup) (h : ∀ k ∈ l, 0 ≤ k ∧ k < 8) : (l.mergeSort fun x y => decide (x ≤ y)) = ascL l := by
  have pw : (List.range 8).Pairwise (fun a b => a < b) := List.pairwise_lt_range
  have pw2 : (ascL l).Pairwise fun a b => a < b := by
    unfold ascL
    rw [List.pairwise_map]
    exact (pw.filter _).imp fun hab => by omega
  refine List.Perm.eq_of_pairwise (le := fun a b : Int => decide (a ≤ b) = true) ?_ ?_ ?_ ?_
  · intro a b _ _ h1 h2
    simp only [decide_eq_true_eq] at h1 h2
    omega
  · exact List.pairwise_mergeSort (by intro a b c; simp; omega) (by intro a b; simp; omega) l
  · exact pw2.imp fun hab => by simp; omega
  · refine (List.mergeSort_perm l _).trans ((List.perm_ext_iff_of_nodup hn (pw2.imp fun hab => by omega)).2 fun k => ?_)
    rw [mem_ascL]
    exact ⟨fun hk => ⟨hk, h k hk⟩, fun hk => hk.1⟩
theorem told_asc {cn : Int} {xs : List S4} (h8 : cn ≤ 8) (h : RingOK cn xs) : ((toldL cn xs).mergeSort fun x y => decide (x ≤ y)) = ascL (toldL cn xs) :=
  sort_asc (toldL_nodup h) fun k hk => by have := toldL_in h k hk; omega
theorem toldL_snoc {cn : Int} {xs : List S4} {k : Nat} {x : S4} (hx : xs[k]? = some x) : toldL cn (xs.take (k + 1)) = toldL cn (xs.take k) ++ (if x.tells cn = true then [x.by_] else []) := by
  have hk := List.getElem?_eq_some_iff.1 hx
  rw [List.take_add_one, hx]
  unfold toldL
  rw [List.filter_append, List.map_append]
  congr 1
  cases h : x.tells cn with
  | true => simp [h]
  | false => simp [h]
theorem stepL_snoc {cn : Int} {xs : List S4} {k : Nat} {x : S4} (hx : xs[k]? = some x) : stepL cn (xs.take (k + 1)) = stepL cn (xs.take k) ++ [x.step cn] := by
  rw [List.take_add_one, hx]
  simp [stepL]
/-- the ring with its first k slots stepped -/
def mixL (cn : Int) (xs : List S4) (k : Nat) : List S4 := stepL cn (xs.take k) ++ xs.drop k
theorem mixL_zero (cn : Int) (xs : List S4) : mixL cn xs 0 = xs := by simp [mixL, stepL]
theorem mixL_all (cn : Int) (xs : List S4) : mixL cn xs xs.length = stepL cn xs := by simp [mixL]
theorem len_mixL (cn : Int) (xs : List S4) (k : Nat) : (mixL cn xs k).length = xs.length := by simp [mixL, stepL]; omega
theorem mixL_get {cn : Int} {xs : List S4} {k : Nat} {x : S4} (hx : xs[k]? = some x) : (mixL cn xs k)[k]? = some x := by
  have hk := (List.getElem?_eq_some_iff.1 hx).1
  unfold mixL
  rw [List.getElem?_append_right (by simp [stepL]; omega)]
  rw [show k - (stepL cn (xs.take k)).length = 0 by simp [stepL]; omega, List.getElem?_drop]
  simpa using hx
theorem mixL_set {cn : Int} {xs : List S4} {k : Nat} {x : S4} (hx : xs[k]? = some x) : (mixL cn xs k).set k (x.step cn) = mixL cn xs (k + 1) := by
  have hk := List.getElem?_eq_some_iff.1 hx
  unfold mixL
  obtain ⟨hk1, he⟩ := hk
  rw [stepL_snoc hx, List.set_append_right _ _ (by simp [stepL]; omega), show k - (stepL cn (xs.take k)).length = 0 by simp [stepL]; omega, List.drop_eq_getElem_cons hk1, List.set_cons_zero, List.append_assoc]
  rfl
end Go.Proofs.Ytffhfpdmfegcpaa.slot
