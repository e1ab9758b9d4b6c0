/- What holds at a world that is right: plain laws of who holds a line. -/
import Derived.Test.YtffhfpdmfegcpacAgreeFlat
import Derived.Test.YtffhfpdmfegcpacAgreeHolders
namespace Go.Proofs.Ytffhfpdmfegcpac.agree
open Go.ChangeShapes Go.WideShapes Go.ChangeAt Go.RowKit
open Go.Proofs.Ytffhfpdmfegcpac.base Go.Proofs.Ytffhfpdmfegcpac.flat Go.Proofs.Ytffhfpdmfegcpac.table Go.Proofs.Ytffhfpdmfegcpac.prog Go.Proofs.Ytffhfpdmfegcpac.same Go.Proofs.Ytffhfpdmfegcpac.addr Go.Proofs.Ytffhfpdmfegcpac.bank Go.Proofs.Ytffhfpdmfegcpac.ways Go.Proofs.Ytffhfpdmfegcpac.state Go.Proofs.Ytffhfpdmfegcpac.turn Go.Proofs.Ytffhfpdmfegcpac.bankMore Go.Proofs.Ytffhfpdmfegcpac.memEq
set_option linter.unusedVariables false
set_option linter.unusedSimpArgs false

theorem chk_inv {xs : List Int} {L : Nat} {l : List H7} (h : chkE xs L l = 0) : apartL [] l = true ∧ ∀ x ∈ l, fit1 xs L l x = true := by
  unfold chkE at h
  cases ha : apartL [] l with
  | false => rw [ha, if_pos rfl] at h; cases h
  | true =>
    rw [ha, if_neg (by decide)] at h
    cases hb : l.all (fit1 xs L l) with
    | false => rw [hb, if_pos rfl] at h; cases h
    | true => exact ⟨rfl, fun x hx => List.all_eq_true.1 hb x hx⟩
theorem fit_inv {xs : List Int} {L : Nat} {l : List H7} {x : H7} (h : fit1 xs L l x = true) : dataL x.x = headL l ∧ (ownedL l = true ∨ dataL x.x = lineL xs L) := by
  unfold fit1 at h
  simp only [Bool.and_eq_true, Bool.or_eq_true, decide_eq_true_eq] at h
  exact h
theorem apart_get {l : List H7} (h : apartL [] l = true) {i j : Nat} {x y : H7} (hij : i < j) (hy : l[i]? = some y) (hx : l[j]? = some x) : besideB x.x.s y.x.s = true := by
  cases hb : besideB x.x.s y.x.s with
  | true => rfl
  | false => rw [apart_bad hx hy hij hb] at h; cases h
/-- all that hold a line hold the same data: the line's value -/
theorem val_data {xs : List Int} {L : Nat} {l : List H7} (h : chkE xs L l = 0) {x : H7} (hx : x ∈ l) : x.x.a = valI xs L l 0 ∧ x.x.b = valI xs L l 1 ∧ x.x.c = valI xs L l 2 ∧ x.x.d = valI xs L l 3 := by
  obtain ⟨h1, _⟩ := fit_inv ((chk_inv h).2 x hx)
  cases l with
  | nil => cases hx
  | cons y l =>
    have h2 : [x.x.a, x.x.b, x.x.c, x.x.d] = [y.x.a, y.x.b, y.x.c, y.x.d] := h1
    simp only [List.cons.injEq, and_true] at h2
    exact h2
/-- where none owns the line, memory holds its value -/
theorem val_mem {xs : List Int} (hxl : xs.length = 64) {L : Nat} (hL : L < 16) {l : List H7} (h : chkE xs L l = 0) (ho : ownedL l = false) : wordAt xs (L * 4) = valI xs L l 0 ∧ wordAt xs (L * 4 + 1) = valI xs L l 1 ∧ wordAt xs (L * 4 + 2) = valI xs L l 2 ∧ wordAt xs (L * 4 + 3) = valI xs L l 3 := by
  cases l with
  | nil => exact ⟨rfl, rfl, rfl, rfl⟩
  | cons y l =>
    obtain ⟨_, h2⟩ := fit_inv ((chk_inv h).2 y (by simp))
    rcases h2 with h2 | h2
    · rw [ho] at h2; cases h2
    · rw [lineL_eq hxl hL] at h2
      have h3 : [y.x.a, y.x.b, y.x.c, y.x.d] = [wordAt xs (L * 4), wordAt xs (L * 4 + 1), wordAt xs (L * 4 + 2), wordAt xs (L * 4 + 3)] := h2
      simp only [List.cons.injEq, and_true] at h3
      obtain ⟨e1, e2, e3, e4⟩ := h3
      exact ⟨e1.symm, e2.symm, e3.symm, e4.symm⟩
/-- the owner's number: one of the nodes, or -1 where none owns it -/
theorem ownerL_snoc' (l : List H7) (x : H7) : ownedL (l ++ [x]) = (ownedL l || amongB x.x.s [3, 4]) := by simp [ownedL]
theorem owner_cases : ∀ (n : Nat) (l : List H7), l.length = n → (ownedL l = false ∧ ownerL l = -1) ∨ (ownedL l = true ∧ 0 ≤ ownerL l ∧ ownerL l ∈ nodesL l)
  | 0, l, h => by obtain rfl := List.length_eq_zero_iff.1 h; exact .inl ⟨rfl, rfl⟩
  | n + 1, l, h => by
    obtain ⟨l', x, rfl⟩ : ∃ l' x, l = l' ++ [x] := ⟨l.dropLast, l.getLast (by intro e; rw [e] at h; cases h), (List.dropLast_concat_getLast _).symm⟩
    rw [List.length_append] at h
    rw [ownerL_snoc', ownerL_snoc, nodesL_snoc]
    cases hx : amongB x.x.s [3, 4] with
    | true => right; exact ⟨by simp, by rw [if_pos rfl]; exact Int.natCast_nonneg _, by rw [if_pos rfl]; simp⟩
    | false =>
      rw [if_neg (by decide), Bool.or_false]
      rcases owner_cases n l' (by simpa using h) with ⟨h1, h2⟩ | ⟨h1, h2, h3⟩
      · exact .inl ⟨h1, h2⟩
      · exact .inr ⟨h1, h2, List.mem_append_left _ h3⟩
/-- how many may write -/
def writesL (l : List H7) : Nat := l.countP fun y => amongB y.x.s [2, 4]
theorem writesL_snoc (l : List H7) (x : H7) : writesL (l ++ [x]) = writesL l + if amongB x.x.s [2, 4] = true then 1 else 0 := by
  unfold writesL
  rw [List.countP_append, List.countP_singleton]
theorem among_24 {s : Int} (h : amongB s [2, 4] = true) : s = 2 ∨ s = 4 := by simpa [amongB] using h
theorem beside_w {s t : Int} (hs : s = 2 ∨ s = 4) (h : besideB s t = true) : t = 0 := by
  unfold besideB at h
  rcases hs with rfl | rfl
  · rw [if_neg (by decide), if_neg (by decide), if_neg (by decide)] at h
    simp at h; exact h.2
  · rw [if_neg (by decide), if_neg (by decide), if_neg (by decide)] at h
    simp at h; exact h.2
theorem beside_t {s t : Int} (ht : t = 2 ∨ t = 4) (h : besideB s t = true) : s = 0 := by
  unfold besideB at h
  simp only [Bool.and_eq_true] at h
  obtain ⟨_, h⟩ := h
  by_cases h0 : s = 0
  · exact h0
  · rw [if_neg h0] at h
    exfalso
    rcases ht with rfl | rfl
    · split at h
      · revert h; decide
      · split at h
        · revert h; decide
        · revert h; decide
    · split at h
      · revert h; decide
      · split at h
        · revert h; decide
        · revert h; decide
theorem lone_writer {l : List H7} (ha : apartL [] l = true) (hn : ∀ y ∈ l, ¬ y.x.s = 0) {y : H7} (hy : y ∈ l) (hw : amongB y.x.s [2, 4] = true) : l.length = 1 := by
  obtain ⟨p, hp⟩ := List.getElem?_of_mem hy
  have hpl := (List.getElem?_eq_some_iff.1 hp).1
  by_cases h1 : l.length = 1
  · exact h1
  · exfalso
    by_cases h0 : p = 0
    · obtain ⟨z, hz⟩ := get_some (xs := l) (k := 1) (by omega)
      exact hn z (List.mem_of_getElem? hz) (beside_t (among_24 hw) (apart_get ha (by omega : p < 1) hp hz))
    · obtain ⟨z, hz⟩ := get_some (xs := l) (k := 0) (by omega)
      exact hn z (List.mem_of_getElem? hz) (beside_w (among_24 hw) (apart_get ha (by omega : 0 < p) hz hp))
theorem writes_few {l : List H7} (ha : apartL [] l = true) (hn : ∀ y ∈ l, ¬ y.x.s = 0) : writesL l ≤ 1 ∧ (writesL l = 0 ∨ l.length = 1) := by
  by_cases h0 : writesL l = 0
  · exact ⟨by omega, .inl h0⟩
  · obtain ⟨y, hy, hw⟩ := List.countP_pos_iff.1 (Nat.pos_of_ne_zero h0)
    have h1 := lone_writer ha hn hy hw
    have h2 : writesL l ≤ l.length := List.countP_le_length
    exact ⟨by omega, .inr h1⟩
theorem holdL_not0 {cs L : Int} {hs : List (List R4)} : ∀ y ∈ holdL cs hs L, ¬ y.x.s = 0 := by
  intro y hy
  obtain ⟨h, _, h2⟩ := holdL_mem.1 hy
  have h3 := hasC_has h2
  unfold hasL at h3
  exact (of_decide_eq_true h3).1
theorem node_mem {cs L : Int} {hs : List (List R4)} {k : Nat} {h : List R4} (hk : hs[k]? = some h) : (k : Int) ∈ nodesL (holdL cs hs L) ↔ ∃ x, hasC cs L h = some x := by
  unfold nodesL
  rw [List.mem_map]
  constructor
  · rintro ⟨y, hy, e⟩
    obtain ⟨g, h1, h2⟩ := holdL_mem.1 hy
    have e' : y.node = k := by omega
    rw [e', hk] at h1
    obtain rfl := Option.some.inj h1
    exact ⟨_, h2⟩
  · rintro ⟨x, hx⟩
    exact ⟨⟨k, x⟩, holdL_mem.2 ⟨h, hk, hx⟩, rfl⟩
end Go.Proofs.Ytffhfpdmfegcpac.agree
