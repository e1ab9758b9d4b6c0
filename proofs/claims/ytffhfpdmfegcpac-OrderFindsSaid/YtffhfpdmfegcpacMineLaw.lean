/- What was told of deeds, by nodes: the logs; deeds that were played have an order. -/
import Derived.Test.YtffhfpdmfegcpacExplainLaw
import Derived.Test.YtffhfpdmfegcpacLegal
import Derived.Test.YtffhfpdmfegcpacRowsOwn
import Derived.Test.YtffhfpdmfegcpacPlayAny
import Derived.Test.YtffhfpdmfegcpacEqInt
namespace Go.Proofs.Ytffhfpdmfegcpac.mine
open Go.ChangeShapes Go.WideShapes Go.ChangeAt Go.RowKit
open Go.Proofs.Ytffhfpdmfegcpac.base Go.Proofs.Ytffhfpdmfegcpac.flat Go.Proofs.Ytffhfpdmfegcpac.same Go.Proofs.Ytffhfpdmfegcpac.table Go.Proofs.Ytffhfpdmfegcpac.addr Go.Proofs.Ytffhfpdmfegcpac.bank Go.Proofs.Ytffhfpdmfegcpac.atomic Go.Proofs.Ytffhfpdmfegcpac.memEq Go.Proofs.Ytffhfpdmfegcpac.play Go.Proofs.Ytffhfpdmfegcpac.told Go.Proofs.Ytffhfpdmfegcpac.rows Go.Proofs.Ytffhfpdmfegcpac.find
set_option linter.unusedVariables false
set_option linter.unusedSimpArgs false

/-! ### the logs -/
def nodeF (k : Nat) (ts : List T5) : List T5 := ts.filter fun x => decide (x.d.n = (k : Int))
def mineL (n : Nat) (ts : List T5) : List (List T5) := (List.range n).map fun k => nodeF k ts
def cellsT (M : List T5) : List Value := M.flatMap T5.cells
def rowsF (n : Nat) (ts : List T5) : List (Nat × List Value) := (mineL n ts).map fun m => (m.length, cellsT m)
theorem cellsT_snoc (M : List T5) (x : T5) : cellsT (M ++ [x]) = cellsT M ++ x.cells := by simp [cellsT]
theorem cellsT_get : ∀ (M : List T5) (i j : Nat) (x : T5), M[i]? = some x → j < 5 → (cellsT M)[i * 5 + j]? = x.cells[j]?
  | [], i, j, x, h, _ => by simp at h
  | y :: M, 0, j, x, h, hj => by
    obtain rfl : y = x := by simpa using h
    show (y.cells ++ cellsT M)[0 * 5 + j]? = _
    rw [List.getElem?_append_left (by simp [T5.cells]; omega)]
    congr 1
    omega
  | y :: M, i + 1, j, x, h, hj => by
    show (y.cells ++ cellsT M)[(i + 1) * 5 + j]? = _
    rw [List.getElem?_append_right (by simp [T5.cells]; omega)]
    rw [show (i + 1) * 5 + j - y.cells.length = i * 5 + j by simp [T5.cells]; omega]
    exact cellsT_get M i j x (by simpa using h) hj
theorem nodeF_snoc (k : Nat) (ts : List T5) (x : T5) : nodeF k (ts ++ [x]) = nodeF k ts ++ if x.d.n = (k : Int) then [x] else [] := by
  unfold nodeF
  rw [List.filter_append]
  by_cases h : x.d.n = (k : Int)
  · simp [h]
  · simp [h]
theorem nodeF_len (k : Nat) (ts : List T5) : (nodeF k ts).length ≤ ts.length := by unfold nodeF; exact List.length_filter_le _ _
theorem mineL_len (n : Nat) (ts : List T5) : (mineL n ts).length = n := by simp [mineL]
theorem mineL_get {n k : Nat} (h : k < n) (ts : List T5) : (mineL n ts)[k]? = some (nodeF k ts) := by simp [mineL, h]
theorem mineL_of {n k : Nat} {ts : List T5} {m : List T5} (h : (mineL n ts)[k]? = some m) : k < n ∧ m = nodeF k ts := by
  have hk : k < n := by have := (List.getElem?_eq_some_iff.1 h).1; rwa [mineL_len] at this
  rw [mineL_get hk] at h
  exact ⟨hk, (Option.some.inj h).symm⟩
theorem rowsF_get {n k : Nat} (h : k < n) (ts : List T5) : (rowsF n ts)[k]? = some ((nodeF k ts).length, cellsT (nodeF k ts)) := by
  unfold rowsF; rw [List.getElem?_map, mineL_get h]; rfl
theorem rowsF_len (n : Nat) (ts : List T5) : (rowsF n ts).length = n := by simp [rowsF, mineL]
theorem rowsF_nil (n : Nat) : rowsF n [] = List.replicate n (0, []) := by
  apply List.ext_getElem?
  intro j
  by_cases hj : j < n
  · rw [rowsF_get hj]; simp [nodeF, cellsT, hj]
  · rw [List.getElem?_eq_none (by rw [rowsF_len]; omega), List.getElem?_eq_none (by simp; omega)]
theorem rowsF_snoc (n : Nat) {k : Nat} (ts : List T5) {x : T5} (hx : x.d.n = (k : Int)) : rowsF n (ts ++ [x]) = (rowsF n ts).set k ((nodeF k ts).length + 1, cellsT (nodeF k ts) ++ x.cells) := by
  apply List.ext_getElem?
  intro j
  by_cases hj : j < n
  · rw [rowsF_get hj, nodeF_snoc]
    by_cases hk : k = j
    · subst hk
      rw [List.getElem?_set_self (by rw [rowsF_len]; exact hj), if_pos hx, List.length_append, cellsT_snoc]
      rfl
    · rw [List.getElem?_set_ne hk, rowsF_get hj, if_neg (by rw [hx]; omega), List.append_nil]
  · rw [List.getElem?_eq_none (by rw [rowsF_len]; omega), List.getElem?_eq_none (by rw [List.length_set, rowsF_len]; omega)]
theorem own_tolds {w : World} {base : Nat} {e : TypeId} {a : Option Addr} {c : Nat} {M : List T5} (h : w.ownsRow base e 5 (.slice a M.length c) M.length (cellsT M)) : ToldsAt w a M := by
  cases M with
  | nil => exact .inl rfl
  | cons y M =>
    obtain ⟨g, rfl⟩ : ∃ g, a = some ⟨g, 0, none⟩ := by
      rcases h.2 with ⟨_, h1⟩ | ⟨g, cap, cur, hv, _⟩
      · simp at h1
      · injection hv with hv; exact ⟨g, hv⟩
    refine .inr ⟨g, 0, rfl, fun i r hr => ?_⟩
    rw [List.getElem?_map] at hr
    cases hx : (y :: M)[i]? with
    | none => rw [hx] at hr; cases hr
    | some x =>
      rw [hx] at hr
      obtain rfl := Option.some.inj hr
      refine ⟨rfl, fun j v hj => ?_⟩
      have hj5 : j < 5 := by
        have := (List.getElem?_eq_some_iff.1 hj).1
        simpa [T5.cells] using this
      have hi := (List.getElem?_eq_some_iff.1 hx).1
      rw [Nat.zero_add, World.ownsRow.cellAt h (i * 5 + j) (by omega), cellsT_get _ i j x hx hj5]
      exact hj
def RelM (ts : List T5) (n g : Nat) (tt td : TypeId) (w0 : World) (i : Value) (wr : World) : Prop :=
  ∃ (j : Nat) (l : Array Obj) (d : Nat) (vs : List Value), j ≤ ts.length ∧ i = .int .i64 j ∧ wr = w0.later l d
    ∧ (w0.later l d).ownsRow w0.heap.size tt 1 (.slice (some ⟨g, 0, none⟩) n n) n vs
    ∧ OwnRows (w0.later l d) g td 5 vs (rowsF n (ts.take j))
/-- rows of the call's own, as the lists that they hold -/
theorem rows_mine {w : World} {base g n : Nat} {tt td : TypeId} {vs : List Value} {ts : List T5} (h : w.ownsRow base tt 1 (.slice (some ⟨g, 0, none⟩) n n) n vs) (hr : OwnRows w g td 5 vs (rowsF n ts)) : ListsAt ToldsAt w (some ⟨g, 0, none⟩) (mineL n ts) := by
  refine .inr ⟨g, 0, rfl, fun i m hm => ?_⟩
  obtain ⟨hi, rfl⟩ := mineL_of hm
  have hl : vs.length = n := by rw [hr.len, rowsF_len]
  obtain ⟨v, hv⟩ := get_some (xs := vs) (k := i) (by rw [hl]; exact hi)
  have ho := hr.own i v _ _ hv (rowsF_get hi ts)
  obtain ⟨a, c, rfl⟩ := own_form ho
  refine ⟨a, c, by rw [Nat.zero_add, h.cellAt i (by omega)]; exact hv, ?_⟩
  have hd := own_tolds ho
  rcases ho.2 with ⟨h1, h2⟩ | ⟨b, cap, cur, h1, h2, h3, h4, h5, _⟩
  · injection h1 with e1 e2 e3
    exact ⟨by omega, by rw [e3]; exact Nat.zero_le _, fun _ => e2, hd⟩
  · injection h1 with e1 e2 e3
    exact ⟨by omega, by omega, (fun e => by rw [e1] at e; cases e), hd⟩


/-! ### what was told of deeds that were played -/
def zipT (m : List Int) : List D4 → List T5
  | [] => []
  | d :: ds => ⟨d, plainV m d.k d.a⟩ :: zipT (plainM m d.k d.a d.v) ds
theorem zipT_len : ∀ (ds : List D4) (m : List Int), (zipT m ds).length = ds.length
  | [], _ => rfl
  | d :: ds, m => by simp [zipT, zipT_len ds]
theorem zipT_legal : ∀ (ds : List D4) (m : List Int), legalB m (zipT m ds) = true
  | [], _ => rfl
  | d :: ds, m => by simp [zipT, legalB, zipT_legal ds]
theorem zipT_get : ∀ (ds : List D4) (m : List Int) (i : Nat) (x : T5), (zipT m ds)[i]? = some x → ds[i]? = some x.d ∧ (playV m ds)[i]? = some x.u
  | [], _, i, x, h => by simp [zipT] at h
  | d :: ds, m, 0, x, h => by
    obtain rfl : (⟨d, plainV m d.k d.a⟩ : T5) = x := by simpa [zipT] using h
    exact ⟨rfl, rfl⟩
  | d :: ds, m, i + 1, x, h => by
    have := zipT_get ds (plainM m d.k d.a d.v) i x (by simpa [zipT] using h)
    simpa [playV] using this
theorem zipT_mem {ds : List D4} {m : List Int} {x : T5} (h : x ∈ zipT m ds) : x.d ∈ ds := by
  obtain ⟨i, hi⟩ := List.getElem?_of_mem h
  exact List.mem_of_getElem? (zipT_get ds m i x hi).1
/-- the places behind so many of the deeds -/
def atsF (n : Nat) (pre : List T5) : List Nat := (List.range n).map fun k => (nodeF k pre).length
theorem atsF_get {n k : Nat} (h : k < n) (pre : List T5) : (atsF n pre)[k]? = some (nodeF k pre).length := by simp [atsF, h]
theorem atsF_len (n : Nat) (pre : List T5) : (atsF n pre).length = n := by simp [atsF]
theorem atsF_nil (n : Nat) : atsF n [] = List.replicate n 0 := by
  apply List.ext_getElem?
  intro j
  by_cases hj : j < n
  · rw [atsF_get hj]; simp [nodeF, hj]
  · rw [List.getElem?_eq_none (by rw [atsF_len]; omega), List.getElem?_eq_none (by simp; omega)]
theorem atsF_snoc {n k : Nat} (hk : k < n) (pre : List T5) {x : T5} (hx : x.d.n = (k : Int)) : bump (atsF n pre) k = atsF n (pre ++ [x]) := by
  rw [bump_eq (atsF_get hk pre)]
  apply List.ext_getElem?
  intro j
  by_cases hj : j < n
  · rw [atsF_get hj, nodeF_snoc]
    by_cases e : k = j
    · subst e
      rw [List.getElem?_set_self (by rw [atsF_len]; exact hj), if_pos hx, List.length_append]
      rfl
    · rw [List.getElem?_set_ne e, atsF_get hj, if_neg (by rw [hx]; omega), List.append_nil]
  · rw [List.getElem?_eq_none (by rw [List.length_set, atsF_len]; omega), List.getElem?_eq_none (by rw [atsF_len]; omega)]
theorem ord_mine {n : Nat} {m : List Int} : ∀ (suf pre : List T5), (∀ x ∈ suf, 0 ≤ x.d.n ∧ x.d.n < n) → legalB m (pre ++ suf) = true → Ord (mineL n (pre ++ suf)) (atsF n pre) (memT m pre) (suf.map fun x => x.d.n.toNat)
  | [], pre, _, _ => .nil _ _ fun k l hl => by
    rw [List.append_nil] at hl
    obtain ⟨hk, rfl⟩ := mineL_of hl
    exact atsF_get hk pre
  | x :: suf, pre, hn, hleg => by
    obtain ⟨h0, h1⟩ := hn x (by simp)
    obtain ⟨k, hk⟩ := Int.eq_ofNat_of_zero_le h0
    have hkn : k < n := by omega
    have hkt : x.d.n.toNat = k := by rw [hk]; rfl
    have hstep : stepK (mineL n (pre ++ x :: suf)) (atsF n pre) (memT m pre) k = some x := by
      refine stepK_mk (mineL_get hkn _) (atsF_get hkn pre) ?_ ?_
      · unfold nodeF
        rw [List.filter_append, List.getElem?_append_right (Nat.le_refl _), Nat.sub_self, List.filter_cons, if_pos (by simp [hk])]
        rfl
      · rw [legalB_append, Bool.and_eq_true] at hleg
        have := hleg.2
        simp only [legalB, Bool.and_eq_true, decide_eq_true_eq] at this
        exact this.1
    rw [List.map_cons, hkt]
    refine .cons _ _ _ x _ hstep ?_
    rw [atsF_snoc hkn pre hk, ← memT_snoc]
    have e : pre ++ x :: suf = (pre ++ [x]) ++ suf := by simp
    rw [e] at hleg ⊢
    exact ord_mine suf (pre ++ [x]) (fun y hy => hn y (by simp [hy])) hleg
theorem sumN_eq (ts : List T5) (hn : ∀ x ∈ ts, 0 ≤ x.d.n ∧ x.d.n < 8) {m : List Int} (hleg : legalB m ts = true) : sumN (mineL 8 ts) = ts.length := by
  have h := ord_len (ord_mine (n := 8) ts [] hn hleg)
  rw [List.length_map, atsF_nil, List.nil_append, left_zeros] at h
  exact h.symm
theorem firstBad_all : ∀ {l : List D4}, (∀ d ∈ l, badOf d = 0) → firstBad l = 0
  | [], _ => rfl
  | d :: l, h => by
    show (if badOf d = 0 then firstBad l else badOf d) = 0
    rw [if_pos (h d (by simp))]
    exact firstBad_all fun d hd => h d (by simp [hd])
/-- logs of deeds that were played are explained -/
theorem mine_explained {m : List Int} {ts : List T5} (h12 : ts.length ≤ 12) (hr : ∀ x ∈ ts, badOf x.d = 0) (hleg : legalB m ts = true) : explE (mineL 8 ts) = 0 ∧ (explS m (mineL 8 ts)).isSome = true := by
  have hn : ∀ x ∈ ts, 0 ≤ x.d.n ∧ x.d.n < 8 := fun x hx => by
    have := (right_pos (hr x hx)).1
    omega
  have hs := sumN_eq ts hn hleg
  have hsi : sumI (mineL 8 ts) = (ts.length : Int) := by
    have := sum_small (mineL 8 ts) 0 (by omega)
    rw [Nat.zero_add, hs] at this
    exact this
  have hE : explE (mineL 8 ts) = 0 := by
    unfold explE
    rw [if_neg (by rw [mineL_len, hsi]; omega)]
    have : ∀ ls : List (List T5), (∀ l ∈ ls, toldE 12 l = 0) → firstT 12 ls = 0 := fun ls => by
      induction ls with
      | nil => intro _; rfl
      | cons l ls ih => intro h; simp only [firstT]; rw [if_pos (h l (by simp))]; exact ih fun l hl => h l (by simp [hl])
    refine this _ fun l hl => ?_
    obtain ⟨k, hk⟩ := List.getElem?_of_mem hl
    obtain ⟨_, rfl⟩ := mineL_of hk
    have hlen := nodeF_len k ts
    unfold toldE
    rw [if_neg (by omega)]
    refine firstBad_all fun d hd => ?_
    obtain ⟨x, hx, rfl⟩ := List.mem_map.1 hd
    exact hr x (List.mem_filter.1 hx).1
  refine ⟨hE, ?_⟩
  unfold explS
  rw [if_pos hE]
  have ho := ord_mine (n := 8) ts [] hn hleg
  have hsc := search_complete ho
  rw [List.length_map, atsF_nil, List.nil_append] at hsc
  rw [hs]
  exact hsc
theorem mine_ok {ts : List T5} (h : ∀ x ∈ ts, x.Ok) : ∀ l ∈ mineL 8 ts, ∀ x ∈ l, x.Ok := fun l hl x hx => by
  obtain ⟨k, hk⟩ := List.getElem?_of_mem hl
  obtain ⟨_, rfl⟩ := mineL_of hk
  exact h x (List.mem_filter.1 hx).1
theorem firstK_cong {f g : Nat → Option (List Nat)} : ∀ {n s : Nat}, (∀ k, s ≤ k → k < s + n → f k = g k) → firstK f s n = firstK g s n
  | 0, _, _ => rfl
  | n + 1, s, h => by
    unfold firstK
    rw [h s (by omega) (by omega), firstK_cong fun k h1 h2 => h k (by omega) (by omega)]
theorem search_cong {logs : List (List T5)} : ∀ {n : Nat} {a b : List Nat} {m : List Int}, (∀ k, k < logs.length → a[k]? = b[k]?) → search logs n a m = search logs n b m
  | 0, _, _, _, _ => rfl
  | n + 1, a, b, m, h => by
    show firstK _ 0 logs.length = firstK _ 0 logs.length
    refine firstK_cong fun k _ hk => ?_
    have hkl : k < logs.length := by omega
    have e1 : stepK logs a m k = stepK logs b m k := by unfold stepK; rw [h k hkl]
    rw [e1]
    cases hs : stepK logs b m k with
    | none => rfl
    | some t =>
      simp only [Option.bind_some]
      have hlt : ∀ j, j < logs.length → (bump a k)[j]? = (bump b k)[j]? := fun j hj => by
        obtain ⟨_, i, _, hb, _, _⟩ := stepK_inv hs
        have ha : a[k]? = some i := by rw [h k hkl]; exact hb
        rw [bump_eq ha, bump_eq hb]
        by_cases e : k = j
        · subst e
          rw [List.getElem?_set_self (List.getElem?_eq_some_iff.1 ha).1, List.getElem?_set_self (List.getElem?_eq_some_iff.1 hb).1]
        · rw [List.getElem?_set_ne e, List.getElem?_set_ne e]; exact h j hj
      rw [search_cong hlt]
end Go.Proofs.Ytffhfpdmfegcpac.mine
