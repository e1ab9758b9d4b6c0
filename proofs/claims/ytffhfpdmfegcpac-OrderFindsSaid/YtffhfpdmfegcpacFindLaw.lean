/- The search for one order of logs, as a law of lists. -/
import Derived.Test.YtffhfpdmfegcpacLegal
namespace Go.Proofs.Ytffhfpdmfegcpac.find
open Go.Proofs.Ytffhfpdmfegcpac.base Go.Proofs.Ytffhfpdmfegcpac.flat Go.Proofs.Ytffhfpdmfegcpac.table Go.Proofs.Ytffhfpdmfegcpac.atomic Go.Proofs.Ytffhfpdmfegcpac.play Go.Proofs.Ytffhfpdmfegcpac.told
set_option linter.unusedVariables false
set_option linter.unusedSimpArgs false

/-- the first of 0 .. n-1 for which f has an answer -/
def firstK (f : Nat → Option (List Nat)) : Nat → Nat → Option (List Nat)
  | _, 0 => none
  | s, n + 1 => match f s with
    | some l => some l
    | none => firstK f (s + 1) n
/-- what log k can do next: the deed, if what it told is what memory tells -/
def stepK (logs : List (List T5)) (at_ : List Nat) (m : List Int) (k : Nat) : Option T5 :=
  (logs[k]?).bind fun l => (at_[k]?).bind fun i => (l[i]?).bind fun t => if plainV m t.d.k t.d.a = t.u then some t else none
def bump (at_ : List Nat) (k : Nat) : List Nat := at_.set k (at_.getD k 0 + 1)
/-- the first order, of so many deeds -/
def search (logs : List (List T5)) : Nat → List Nat → List Int → Option (List Nat)
  | 0, _, _ => some []
  | n + 1, at_, m => firstK (fun k => (stepK logs at_ m k).bind fun t => (search logs n (bump at_ k) (plainM m t.d.k t.d.a t.d.v)).map (k :: ·)) 0 logs.length

theorem firstK_some {f : Nat → Option (List Nat)} : ∀ {n s : Nat} {l : List Nat}, firstK f s n = some l → ∃ k, s ≤ k ∧ k < s + n ∧ f k = some l
  | 0, _, _, h => by cases h
  | n + 1, s, l, h => by
    unfold firstK at h
    cases hs : f s with
    | some l' => rw [hs] at h; exact ⟨s, by omega, by omega, by rw [hs]; exact h⟩
    | none =>
      rw [hs] at h
      obtain ⟨k, h1, h2, h3⟩ := firstK_some h
      exact ⟨k, by omega, by omega, h3⟩
theorem firstK_none {f : Nat → Option (List Nat)} : ∀ {n s : Nat}, firstK f s n = none → ∀ k, s ≤ k → k < s + n → f k = none
  | 0, _, _, k, h1, h2 => by omega
  | n + 1, s, h, k, h1, h2 => by
    unfold firstK at h
    cases hs : f s with
    | some l' => rw [hs] at h; cases h
    | none =>
      rw [hs] at h
      by_cases hk : k = s
      · subst hk; exact hs
      · exact firstK_none h k (by omega) (by omega)
/-- as the loop goes: none so far, and the next has an answer -/
theorem firstK_at {f : Nat → Option (List Nat)} : ∀ {n s k : Nat} {l : List Nat}, (∀ i, s ≤ i → i < k → f i = none) → s ≤ k → k < s + n → f k = some l → firstK f s n = some l
  | 0, _, _, _, _, h1, h2, _ => by omega
  | n + 1, s, k, l, h, h1, h2, hk => by
    unfold firstK
    by_cases e : k = s
    · subst e; rw [hk]
    · rw [h s (by omega) (by omega)]
      exact firstK_at (fun i hi hik => h i (by omega) hik) (by omega) (by omega) hk
theorem firstK_no {f : Nat → Option (List Nat)} : ∀ {n s : Nat}, (∀ i, s ≤ i → i < s + n → f i = none) → firstK f s n = none
  | 0, _, _ => rfl
  | n + 1, s, h => by
    unfold firstK
    rw [h s (by omega) (by omega)]
    exact firstK_no fun i hi hin => h i (by omega) (by omega)

/-- an order that takes each log to its end -/
inductive Ord (logs : List (List T5)) : List Nat → List Int → List Nat → Prop
  | nil (at_ : List Nat) (m : List Int) : (∀ (k : Nat) (l : List T5), logs[k]? = some l → at_[k]? = some l.length) → Ord logs at_ m []
  | cons (at_ : List Nat) (m : List Int) (k : Nat) (t : T5) (ps : List Nat) : stepK logs at_ m k = some t → Ord logs (bump at_ k) (plainM m t.d.k t.d.a t.d.v) ps → Ord logs at_ m (k :: ps)
theorem stepK_inv {logs : List (List T5)} {at_ : List Nat} {m : List Int} {k : Nat} {t : T5} (h : stepK logs at_ m k = some t) : ∃ l i, logs[k]? = some l ∧ at_[k]? = some i ∧ l[i]? = some t ∧ plainV m t.d.k t.d.a = t.u := by
  unfold stepK at h
  obtain ⟨l, h1, h⟩ := Option.bind_eq_some_iff.1 h
  obtain ⟨i, h2, h⟩ := Option.bind_eq_some_iff.1 h
  obtain ⟨t', h3, h⟩ := Option.bind_eq_some_iff.1 h
  split at h
  · rename_i h4
    injection h with h
    subst h
    exact ⟨l, i, h1, h2, h3, h4⟩
  · cases h
theorem stepK_mk {logs : List (List T5)} {at_ : List Nat} {m : List Int} {k i : Nat} {t : T5} {l : List T5} (h1 : logs[k]? = some l) (h2 : at_[k]? = some i) (h3 : l[i]? = some t) (h4 : plainV m t.d.k t.d.a = t.u) : stepK logs at_ m k = some t := by
  unfold stepK; rw [h1, h2]; simp only [Option.bind_some]; rw [h3]; simp only [Option.bind_some]; rw [if_pos h4]
theorem stepK_end {logs : List (List T5)} {at_ : List Nat} {m : List Int} {k i : Nat} {l : List T5} (h1 : logs[k]? = some l) (h2 : at_[k]? = some i) (h3 : l.length ≤ i) : stepK logs at_ m k = none := by
  unfold stepK; rw [h1, h2]; simp only [Option.bind_some]; rw [List.getElem?_eq_none h3]; rfl
theorem stepK_odd {logs : List (List T5)} {at_ : List Nat} {m : List Int} {k i : Nat} {t : T5} {l : List T5} (h1 : logs[k]? = some l) (h2 : at_[k]? = some i) (h3 : l[i]? = some t) (h4 : ¬ plainV m t.d.k t.d.a = t.u) : stepK logs at_ m k = none := by
  unfold stepK; rw [h1, h2]; simp only [Option.bind_some]; rw [h3]; simp only [Option.bind_some]; rw [if_neg h4]

/-- how many are left of logs, from number k on -/
def leftL : List (List T5) → List Nat → Nat
  | [], _ => 0
  | l :: ls, at_ => l.length - at_.headD 0 + leftL ls at_.tail
/-- the places fit the logs -/
def Fit (logs : List (List T5)) (at_ : List Nat) : Prop := ∀ (k : Nat) (l : List T5), logs[k]? = some l → ∃ i, at_[k]? = some i ∧ i ≤ l.length
theorem fit_tail {l : List T5} {logs : List (List T5)} {at_ : List Nat} (h : Fit (l :: logs) at_) : Fit logs at_.tail := fun k l' hl => by
  obtain ⟨i, h1, h2⟩ := h (k + 1) l' (by simpa using hl)
  exact ⟨i, by simpa [List.getElem?_tail] using h1, h2⟩
theorem leftL_zero : ∀ {logs : List (List T5)} {at_ : List Nat}, Fit logs at_ → leftL logs at_ = 0 → ∀ (k : Nat) (l : List T5), logs[k]? = some l → at_[k]? = some l.length
  | [], _, _, _, k, l, hl => by simp at hl
  | l0 :: logs, at_, h, h0, k, l, hl => by
    unfold leftL at h0
    cases k with
    | zero =>
      obtain rfl : l0 = l := by simpa using hl
      obtain ⟨i, h1, h2⟩ := h 0 l0 (by simp)
      have e : at_.headD 0 = i := by
        cases at_ with
        | nil => simp at h1
        | cons a r => simpa using h1
      rw [h1]
      congr 1
      omega
    | succ k =>
      have := leftL_zero (fit_tail h) (by omega) k l (by simpa using hl)
      simpa [List.getElem?_tail] using this
theorem leftL_done : ∀ {logs : List (List T5)} {at_ : List Nat}, (∀ (k : Nat) (l : List T5), logs[k]? = some l → at_[k]? = some l.length) → leftL logs at_ = 0
  | [], _, _ => rfl
  | l0 :: logs, at_, h => by
    unfold leftL
    have h0 := h 0 l0 (by simp)
    have e : at_.headD 0 = l0.length := by
      cases at_ with
      | nil => simp at h0
      | cons a r => simpa using h0
    have := leftL_done (logs := logs) (at_ := at_.tail) fun k l hl => by
      have := h (k + 1) l (by simpa using hl)
      simpa [List.getElem?_tail] using this
    omega
theorem tail_set {at_ : List Nat} {k v : Nat} : (at_.set (k + 1) v).tail = at_.tail.set k v := by
  cases at_ <;> rfl
theorem headD_set {at_ : List Nat} {k v : Nat} : (at_.set (k + 1) v).headD 0 = at_.headD 0 := by
  cases at_ <;> rfl
theorem leftL_set : ∀ {logs : List (List T5)} {at_ : List Nat} {k i : Nat} {l : List T5}, logs[k]? = some l → at_[k]? = some i → i < l.length → leftL logs (at_.set k (i + 1)) + 1 = leftL logs at_
  | [], _, k, _, _, hl, _, _ => by simp at hl
  | l0 :: logs, at_, 0, i, l, hl, hi, hlt => by
    obtain rfl : l0 = l := by simpa using hl
    cases at_ with
    | nil => simp at hi
    | cons a r =>
      obtain rfl : a = i := by simpa using hi
      simp only [leftL, List.set_cons_zero, List.headD_cons, List.tail_cons]
      omega
  | l0 :: logs, at_, k + 1, i, l, hl, hi, hlt => by
    have := leftL_set (logs := logs) (at_ := at_.tail) (k := k) (i := i) (l := l) (by simpa using hl) (by simpa [List.getElem?_tail] using hi) hlt
    simp only [leftL]
    rw [tail_set, headD_set]
    omega
theorem bump_eq {at_ : List Nat} {k i : Nat} (h : at_[k]? = some i) : bump at_ k = at_.set k (i + 1) := by
  unfold bump; rw [List.getD_eq_getElem?_getD, h]; rfl
theorem fit_bump {logs : List (List T5)} {at_ : List Nat} {k i : Nat} {l : List T5} (h : Fit logs at_) (hl : logs[k]? = some l) (hi : at_[k]? = some i) (hlt : i < l.length) : Fit logs (bump at_ k) := by
  rw [bump_eq hi]
  intro j l' hl'
  by_cases e : k = j
  · subst e
    obtain rfl := Option.some.inj (hl.symm.trans hl')
    exact ⟨i + 1, List.getElem?_set_self (List.getElem?_eq_some_iff.1 hi).1, hlt⟩
  · rw [List.getElem?_set_ne e]; exact h j l' hl'
theorem left_bump {logs : List (List T5)} {at_ : List Nat} {k i : Nat} {l : List T5} (hl : logs[k]? = some l) (hi : at_[k]? = some i) (hlt : i < l.length) : leftL logs (bump at_ k) + 1 = leftL logs at_ := by
  rw [bump_eq hi]; exact leftL_set hl hi hlt
theorem len_bump (at_ : List Nat) (k : Nat) : (bump at_ k).length = at_.length := by simp [bump]

theorem search_sound {logs : List (List T5)} : ∀ {n : Nat} {at_ : List Nat} {m : List Int} {ps : List Nat}, Fit logs at_ → leftL logs at_ = n → search logs n at_ m = some ps → Ord logs at_ m ps
  | 0, at_, m, ps, hf, hn, h => by
    obtain rfl : [] = ps := by simpa [search] using h
    exact .nil _ _ (leftL_zero hf hn)
  | n + 1, at_, m, ps, hf, hn, h => by
    unfold search at h
    obtain ⟨k, _, _, h1⟩ := firstK_some h
    obtain ⟨t, h2, h1⟩ := Option.bind_eq_some_iff.1 h1
    obtain ⟨qs, h3, rfl⟩ := Option.map_eq_some_iff.1 h1
    obtain ⟨l, i, e1, e2, e3, e4⟩ := stepK_inv h2
    have hlt : i < l.length := (List.getElem?_eq_some_iff.1 e3).1
    exact .cons _ _ _ _ _ h2 (search_sound (fit_bump hf e1 e2 hlt) (by have := left_bump e1 e2 hlt; omega) h3)
theorem ord_len {logs : List (List T5)} : ∀ {at_ : List Nat} {m : List Int} {ps : List Nat}, Ord logs at_ m ps → ps.length = leftL logs at_ := by
  intro at_ m ps h
  induction h with
  | nil at_ m h => exact (leftL_done h).symm
  | cons at_ m k t ps h1 _ ih =>
    obtain ⟨l, i, e1, e2, e3, e4⟩ := stepK_inv h1
    have := left_bump e1 e2 (List.getElem?_eq_some_iff.1 e3).1
    simp only [List.length_cons]
    omega
theorem search_complete {logs : List (List T5)} {at_ : List Nat} {m : List Int} {ps : List Nat} (h : Ord logs at_ m ps) : (search logs ps.length at_ m).isSome = true := by
  induction h with
  | nil at_ m h => rfl
  | cons at_ m k t ps h1 _ ih =>
    obtain ⟨l, i, e1, e2, e3, e4⟩ := stepK_inv h1
    have hk : k < logs.length := (List.getElem?_eq_some_iff.1 e1).1
    show (firstK _ 0 logs.length).isSome = true
    cases hs : firstK (fun k => (stepK logs at_ m k).bind fun t => (search logs ps.length (bump at_ k) (plainM m t.d.k t.d.a t.d.v)).map (k :: ·)) 0 logs.length with
    | some l => rfl
    | none =>
      have := firstK_none hs k (by omega) (by omega)
      simp only [h1, Option.bind_some, Option.map_eq_none_iff] at this
      rw [this] at ih
      cases ih
end Go.Proofs.Ytffhfpdmfegcpac.find
