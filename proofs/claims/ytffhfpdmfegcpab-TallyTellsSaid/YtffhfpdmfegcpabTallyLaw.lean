/- Events that came in; what package tally computes, as laws of lists. -/
import Derived.Test.YtffhfpdmfegcpabSplitLaw
import Derived.Test.YtffhfpdmfegcpabTold
namespace Go.Proofs.Ytffhfpdmfegcpab.tally
open Go.ChangeShapes Go.WideShapes Go.ChangeAt Go.RowKit
open Go.Proofs.Ytffhfpdmfegcpab.base Go.Proofs.Ytffhfpdmfegcpab.flat Go.Proofs.Ytffhfpdmfegcpab.table Go.Proofs.Ytffhfpdmfegcpab.addr Go.Proofs.Ytffhfpdmfegcpab.atomic Go.Proofs.Ytffhfpdmfegcpab.told Go.Proofs.Ytffhfpdmfegcpab.prog Go.Proofs.Ytffhfpdmfegcpab.rows
set_option linter.unusedVariables false
set_option linter.unusedSimpArgs false

/-- a deed that was done: what it told, and whether by the ring -/
structure E6 where
  d : D4
  u : Int
  b : Bool
def E6.cells (x : E6) : List Value := [.int .i64 x.d.n, .int .i64 x.d.k, .int .i64 x.d.a, .int .u64 x.d.v, .int .u64 x.u, .bool x.b]
def E6.Ok (x : E6) : Prop := x.d.Ok ∧ (Lit.int .u64 x.u).wf = true
def E6.told (x : E6) : T5 := ⟨x.d, x.u⟩
def EventsAt (w : World) (a : Option Addr) (xs : List E6) : Prop := RowsAt 6 w a (xs.map E6.cells)

section
variable {H : Type} {enc : TypeId × Value → H} {P : Program} {w : World} {base : Nat} {spare : Nat → Bool} {held : Bool}
theorem all2_event {cs : List Value} (h : All2 enc P w base spare held [.int .i64, .int .i64, .int .i64, .int .u64, .int .u64, .bool] cs) :
    ∃ (a b c d e : Int) (f : Bool), cs = [.int .i64 a, .int .i64 b, .int .i64 c, .int .u64 d, .int .u64 e, .bool f] ∧ (Lit.int .i64 a).wf = true ∧ (Lit.int .i64 b).wf = true ∧ (Lit.int .i64 c).wf = true ∧ (Lit.int .u64 d).wf = true ∧ (Lit.int .u64 e).wf = true := by
  obtain ⟨_, _, rfl, ⟨a, rfl, ha⟩, g1⟩ := all2_cons h
  obtain ⟨_, _, rfl, ⟨b, rfl, hb⟩, g2⟩ := all2_cons g1
  obtain ⟨_, _, rfl, ⟨c, rfl, hc⟩, g3⟩ := all2_cons g2
  obtain ⟨_, _, rfl, ⟨d, rfl, hd⟩, g4⟩ := all2_cons g3
  obtain ⟨_, _, rfl, ⟨e, rfl, he⟩, g5⟩ := all2_cons g4
  obtain ⟨_, _, rfl, ⟨f, rfl⟩, g6⟩ := all2_cons g5
  obtain rfl := all2_nil g6
  exact ⟨a, b, c, d, e, f, rfl, ha, hb, hc, hd, he⟩
theorem open_events {m : Nat} {t e : TypeId} {a : Option Addr} {len cap : Nat} {d : DataW H} {ps : List MemPlace} (ht : P.underlying t = some (.slice e)) (hk : flat P m e = some [.int .i64, .int .i64, .int .i64, .int .u64, .int .u64, .bool]) (hl : 6 = P.cellsOf e)
    (h : DataW.Trod enc P w base spare held t (.slice a len cap) d ps) :
    len ≤ cap ∧ cap ≤ maxLen ∧ (a = none → len = 0) ∧ ∃ xs : List E6, xs.length = len ∧ EventsAt w a xs ∧ ∀ x ∈ xs, x.Ok := by
  obtain ⟨h1, h2, h3, rs, h4, h5, h6⟩ := open_rows _ ht hk hl (by decide) h
  obtain ⟨xs, rfl, hxs⟩ := rows_of (cells := E6.cells) (good := E6.Ok) (rs := rs) fun r hr => by
    obtain ⟨a, b, c, d, e, f, rfl, wa, wb, wc, wd, we⟩ := all2_event (h6 r hr)
    exact ⟨⟨⟨a, b, c, d⟩, e, f⟩, rfl, ⟨wa, wb, wc, wd⟩, we⟩
  exact ⟨h1, h2, h3, xs, by simpa using h4, h5, hxs⟩
end
theorem EventsAt.at {w : World} {b off : Nat} {xs : List E6} (h : EventsAt w (some ⟨b, off, none⟩) xs) {i : Nat} {x : E6} (hx : xs[i]? = some x) :
    w.cell? ⟨b, off + i * 6, none⟩ = some (.int .i64 x.d.n) ∧ w.cell? ⟨b, off + i * 6 + 1, none⟩ = some (.int .i64 x.d.k) ∧ w.cell? ⟨b, off + i * 6 + 2, none⟩ = some (.int .i64 x.d.a) ∧ w.cell? ⟨b, off + i * 6 + 3, none⟩ = some (.int .u64 x.d.v) ∧ w.cell? ⟨b, off + i * 6 + 4, none⟩ = some (.int .u64 x.u) ∧ w.cell? ⟨b, off + i * 6 + 5, none⟩ = some (.bool x.b) := by
  have hr : (xs.map E6.cells)[i]? = some x.cells := by simp [hx]
  exact ⟨RowsAt.at h hr (j := 0) rfl, RowsAt.at h hr (j := 1) rfl, RowsAt.at h hr (j := 2) rfl, RowsAt.at h hr (j := 3) rfl, RowsAt.at h hr (j := 4) rfl, RowsAt.at h hr (j := 5) rfl⟩
theorem EventsAt.below {w w' : World} {a : Option Addr} {xs : List E6} (h : EventsAt w a xs) (hb : Below w.heap.size w w') : EventsAt w' a xs := RowsAt.below h hb
theorem EventsAt.form {w : World} {a : Option Addr} {xs : List E6} (h : EventsAt w a xs) {i : Nat} {x : E6} (hx : xs[i]? = some x) : ∃ b off, a = some ⟨b, off, none⟩ :=
  RowsAt.form h (i := i) (r := x.cells) (by simp [hx])

/-- the fault of an event, for so many nodes -/
def evP (n : Int) (_ : Nat) (x : E6) : Int := splitP n 0 x.d
/-- the first fault of events -/
def evE (n : Int) (ts : List E6) : Int := if 200 < ts.length then 2 else fnz (evP n) 0 ts
def tallyE (cn cs cy cb : Int) (ts : List E6) : Int := if cfgE cn cs cy cb = 0 then evE cn ts else cfgE cn cs cy cb
theorem evE_ok {n : Int} {ts : List E6} (h : evE n ts = 0) : ts.length ≤ 200 ∧ ∀ (i : Nat) (x : E6), ts[i]? = some x → rightE x.d.n x.d.k x.d.a x.d.v = 0 ∧ x.d.n < n := by
  unfold evE at h
  by_cases h2 : 200 < ts.length
  · rw [if_pos h2] at h; cases h
  · rw [if_neg h2] at h
    refine ⟨by omega, fun i x hx => ?_⟩
    have h3 := fnz_all h i x hx
    unfold evP splitP at h3
    by_cases hr : rightE x.d.n x.d.k x.d.a x.d.v = 0
    · rw [if_pos hr] at h3
      by_cases hn : n ≤ x.d.n
      · rw [if_pos hn] at h3; cases h3
      · exact ⟨hr, by omega⟩
    · rw [if_neg hr] at h3; exact absurd h3 hr
theorem tallyE_ok {cn cs cy cb : Int} {ts : List E6} (h : tallyE cn cs cy cb ts = 0) : CfgOK cn cs cy cb ∧ evE cn ts = 0 := by
  unfold tallyE at h
  by_cases hc : CfgOK cn cs cy cb
  · rw [if_pos (cfgE_ok hc)] at h; exact ⟨hc, h⟩
  · have hb := cfgE_bad hc
    rw [hb] at h
    cases h

/-! ### the logs -/
def nodeT (k : Nat) (ts : List E6) : List T5 := (ts.filter fun x => decide (x.d.n = (k : Int))).map E6.told
def logsL (n : Nat) (ts : List E6) : List (List T5) := (List.range n).map fun k => nodeT k ts
def cellsT (M : List T5) : List Value := M.flatMap T5.cells
def rowsT (n : Nat) (ts : List E6) : List (Nat × List Value) := (logsL n ts).map fun m => (m.length, cellsT m)
theorem cellsT_snoc (M : List T5) (x : T5) : cellsT (M ++ [x]) = cellsT M ++ x.cells := by simp [cellsT]
theorem cellsT_get : ∀ (M : List T5) (i j : Nat) (x : T5), M[i]? = some x → j < 5 → (cellsT M)[i * 5 + j]? = x.cells[j]?
  | [], i, j, x, h, _ => by simp at h
  | y :: M, 0, j, x, h, hj => by
    obtain rfl : y = x := by simpa using h
    show (y.cells ++ cellsT M)[0 * 5 + j]? = _
    rw [List.getElem?_append_left (by simp [T5.cells]; omega)]
    congr 1
    omega
  | y :: M, i + 1, j, x, h, hj => by
    show (y.cells ++ cellsT M)[(i + 1) * 5 + j]? = _
    rw [List.getElem?_append_right (by simp [T5.cells]; omega)]
    rw [show (i + 1) * 5 + j - y.cells.length = i * 5 + j by simp [T5.cells]; omega]
    exact cellsT_get M i j x (by simpa using h) hj
theorem nodeT_snoc (k : Nat) (ts : List E6) (x : E6) : nodeT k (ts ++ [x]) = nodeT k ts ++ if x.d.n = (k : Int) then [x.told] else [] := by
  unfold nodeT
  rw [List.filter_append, List.map_append]
  by_cases h : x.d.n = (k : Int)
  · simp [h]
  · simp [h]
theorem nodeT_len (k : Nat) (ts : List E6) : (nodeT k ts).length ≤ ts.length := by unfold nodeT; rw [List.length_map]; exact List.length_filter_le _ _
theorem logsL_len (n : Nat) (ts : List E6) : (logsL n ts).length = n := by simp [logsL]
theorem logsL_get {n k : Nat} (h : k < n) (ts : List E6) : (logsL n ts)[k]? = some (nodeT k ts) := by simp [logsL, h]
theorem logsL_of {n k : Nat} {ts : List E6} {m : List T5} (h : (logsL n ts)[k]? = some m) : k < n ∧ m = nodeT k ts := by
  have hk : k < n := by have := (List.getElem?_eq_some_iff.1 h).1; rwa [logsL_len] at this
  rw [logsL_get hk] at h
  exact ⟨hk, (Option.some.inj h).symm⟩
theorem rowsT_get {n k : Nat} (h : k < n) (ts : List E6) : (rowsT n ts)[k]? = some ((nodeT k ts).length, cellsT (nodeT k ts)) := by
  unfold rowsT; rw [List.getElem?_map, logsL_get h]; rfl
theorem rowsT_len (n : Nat) (ts : List E6) : (rowsT n ts).length = n := by simp [rowsT, logsL]
theorem rowsT_nil (n : Nat) : rowsT n [] = List.replicate n (0, []) := by
  apply List.ext_getElem?
  intro j
  by_cases hj : j < n
  · rw [rowsT_get hj]; simp [nodeT, cellsT, hj]
  · rw [List.getElem?_eq_none (by rw [rowsT_len]; omega), List.getElem?_eq_none (by simp; omega)]
theorem rowsT_snoc (n : Nat) {k : Nat} (ts : List E6) {x : E6} (hx : x.d.n = (k : Int)) : rowsT n (ts ++ [x]) = (rowsT n ts).set k ((nodeT k ts).length + 1, cellsT (nodeT k ts) ++ x.told.cells) := by
  apply List.ext_getElem?
  intro j
  by_cases hj : j < n
  · rw [rowsT_get hj, nodeT_snoc]
    by_cases hk : k = j
    · subst hk
      rw [List.getElem?_set_self (by rw [rowsT_len]; exact hj), if_pos hx, List.length_append, cellsT_snoc]
      rfl
    · rw [List.getElem?_set_ne hk, rowsT_get hj, if_neg (by rw [hx]; omega), List.append_nil]
  · rw [List.getElem?_eq_none (by rw [rowsT_len]; omega), List.getElem?_eq_none (by rw [List.length_set, rowsT_len]; omega)]
theorem own_tolds {w : World} {base : Nat} {e : TypeId} {a : Option Addr} {c : Nat} {M : List T5} (h : w.ownsRow base e 5 (.slice a M.length c) M.length (cellsT M)) : ToldsAt w a M := by
  cases M with
  | nil => exact .inl rfl
  | cons y M =>
    obtain ⟨g, rfl⟩ : ∃ g, a = some ⟨g, 0, none⟩ := by
      rcases h.2 with ⟨_, h1⟩ | ⟨g, cap, cur, hv, _⟩
      · simp at h1
      · injection hv with hv; exact ⟨g, hv⟩
    refine .inr ⟨g, 0, rfl, fun i r hr => ?_⟩
    rw [List.getElem?_map] at hr
    cases hx : (y :: M)[i]? with
    | none => rw [hx] at hr; cases hr
    | some x =>
      rw [hx] at hr
      obtain rfl := Option.some.inj hr
      refine ⟨rfl, fun j v hj => ?_⟩
      have hj5 : j < 5 := by
        have := (List.getElem?_eq_some_iff.1 hj).1
        simpa [T5.cells] using this
      have hi := (List.getElem?_eq_some_iff.1 hx).1
      rw [Nat.zero_add, World.ownsRow.cellAt h (i * 5 + j) (by omega), cellsT_get _ i j x hx hj5]
      exact hj
def RelT (ts : List E6) (n g : Nat) (tt td : TypeId) (w0 : World) (i : Value) (wr : World) : Prop :=
  ∃ (j : Nat) (l : Array Obj) (d : Nat) (vs : List Value), j ≤ ts.length ∧ i = .int .i64 j ∧ wr = w0.later l d
    ∧ (w0.later l d).ownsRow w0.heap.size tt 1 (.slice (some ⟨g, 0, none⟩) n n) n vs
    ∧ OwnRows (w0.later l d) g td 5 vs (rowsT n (ts.take j))
def LogsPost (n : Nat) (E : Int) (ts : List E6) (w : World) (e : Ending) (w' : World) : Prop :=
  Below w.heap.size w w' ∧ ((E = 0 ∧ ∃ a c, e = .returned (.tuple #[.slice a n c, .int .i64 0]) ∧ n ≤ c ∧ c ≤ maxLen ∧ (a = none → n = 0) ∧ ListsAt ToldsAt w' a (logsL n ts))
    ∨ (¬ E = 0 ∧ e = .returned (.tuple #[.slice none 0 0, .int .i64 E])))
/-- rows of the call's own, as the lists that they hold -/
theorem rows_logs {w : World} {base g n : Nat} {tt td : TypeId} {vs : List Value} {ts : List E6} (h : w.ownsRow base tt 1 (.slice (some ⟨g, 0, none⟩) n n) n vs) (hr : OwnRows w g td 5 vs (rowsT n ts)) : ListsAt ToldsAt w (some ⟨g, 0, none⟩) (logsL n ts) := by
  refine .inr ⟨g, 0, rfl, fun i m hm => ?_⟩
  obtain ⟨hi, rfl⟩ := logsL_of hm
  have hl : vs.length = n := by rw [hr.len, rowsT_len]
  obtain ⟨v, hv⟩ := get_some (xs := vs) (k := i) (by rw [hl]; exact hi)
  have ho := hr.own i v _ _ hv (rowsT_get hi ts)
  obtain ⟨a, c, rfl⟩ := own_form ho
  refine ⟨a, c, by rw [Nat.zero_add, h.cellAt i (by omega)]; exact hv, ?_⟩
  have hd := own_tolds ho
  rcases ho.2 with ⟨h1, h2⟩ | ⟨b, cap, cur, h1, h2, h3, h4, h5, _⟩
  · injection h1 with e1 e2 e3
    exact ⟨by omega, by rw [e3]; exact Nat.zero_le _, fun _ => e2, hd⟩
  · injection h1 with e1 e2 e3
    exact ⟨by omega, by omega, (fun e => by rw [e1] at e; cases e), hd⟩

/-! ### the counts -/
/-- five numbers of a node -/
structure C5 where
  a : Int
  b : Int
  c : Int
  d : Int
  e : Int
def C5.cells (x : C5) : List Value := [.int .i64 x.a, .int .i64 x.b, .int .i64 x.c, .int .i64 x.d, .int .i64 x.e]
def cntK (k : Nat) (kind : Int) (ts : List E6) : Int := (ts.filter fun x => decide (x.d.n = (k : Int)) && decide (x.d.k = kind)).length
def cntB (k : Nat) (ts : List E6) : Int := (ts.filter fun x => decide (x.d.n = (k : Int)) && x.b).length
def cntL (k : Nat) (ts : List E6) : C5 := ⟨cntK k 1 ts, cntK k 2 ts, cntK k 3 ts, cntK k 4 ts, cntB k ts⟩
def cntsL (n : Nat) (ts : List E6) : List C5 := (List.range n).map fun k => cntL k ts
def cellsC (M : List C5) : List Value := M.flatMap C5.cells
theorem cellsC_get : ∀ (M : List C5) (i j : Nat) (x : C5), M[i]? = some x → j < 5 → (cellsC M)[i * 5 + j]? = x.cells[j]?
  | [], i, j, x, h, _ => by simp at h
  | y :: M, 0, j, x, h, hj => by
    obtain rfl : y = x := by simpa using h
    show (y.cells ++ cellsC M)[0 * 5 + j]? = _
    rw [List.getElem?_append_left (by simp [C5.cells]; omega)]
    congr 1
    omega
  | y :: M, i + 1, j, x, h, hj => by
    show (y.cells ++ cellsC M)[(i + 1) * 5 + j]? = _
    rw [List.getElem?_append_right (by simp [C5.cells]; omega)]
    rw [show (i + 1) * 5 + j - y.cells.length = i * 5 + j by simp [C5.cells]; omega]
    exact cellsC_get M i j x (by simpa using h) hj
theorem cellsC_len (M : List C5) : (cellsC M).length = M.length * 5 := by
  induction M with
  | nil => rfl
  | cons y M ih =>
    show (y.cells ++ cellsC M).length = _
    rw [List.length_append, ih]
    simp [C5.cells]; omega
theorem cntsL_len (n : Nat) (ts : List E6) : (cntsL n ts).length = n := by simp [cntsL]
theorem cntsL_get {n k : Nat} (h : k < n) (ts : List E6) : (cntsL n ts)[k]? = some (cntL k ts) := by simp [cntsL, h]
theorem cellsC_set : ∀ (M : List C5) (i : Nat) (x : C5), i < M.length → ∀ k, (cellsC (M.set i x))[k]? = if k / 5 = i then x.cells[k % 5]? else (cellsC M)[k]? := by
  intro M i x hi k
  by_cases hk : k < M.length * 5
  · have hkd : k = k / 5 * 5 + k % 5 := by omega
    obtain ⟨y, hy⟩ := get_some (xs := M) (k := k / 5) (by omega)
    by_cases h : k / 5 = i
    · rw [if_pos h]
      have := cellsC_get (M.set i x) (k / 5) (k % 5) x (by rw [h, List.getElem?_set_self hi]) (Nat.mod_lt _ (by decide))
      rwa [← hkd] at this
    · rw [if_neg h]
      have h1 := cellsC_get (M.set i x) (k / 5) (k % 5) y (by rw [List.getElem?_set_ne (fun e => h e.symm)]; exact hy) (Nat.mod_lt _ (by decide))
      have h2 := cellsC_get M (k / 5) (k % 5) y hy (Nat.mod_lt _ (by decide))
      rw [← hkd] at h1 h2
      rw [h1, h2]
  · rw [if_neg (by omega), List.getElem?_eq_none (by rw [cellsC_len, List.length_set]; omega), List.getElem?_eq_none (by rw [cellsC_len]; omega)]
/-- one of the five is one more -/
def C5.up (x : C5) (j : Nat) : C5 := match j with
  | 0 => { x with a := x.a + 1 }
  | 1 => { x with b := x.b + 1 }
  | 2 => { x with c := x.c + 1 }
  | 3 => { x with d := x.d + 1 }
  | 4 => { x with e := x.e + 1 }
  | _ => x
def C5.nth (x : C5) (j : Nat) : Int := match j with
  | 0 => x.a
  | 1 => x.b
  | 2 => x.c
  | 3 => x.d
  | _ => x.e
theorem C5.cells_at (x : C5) (j : Nat) (h : j < 5) : x.cells[j]? = some (.int .i64 (x.nth j)) := by
  match j, h with
  | 0, _ => rfl
  | 1, _ => rfl
  | 2, _ => rfl
  | 3, _ => rfl
  | 4, _ => rfl
  | n + 5, h => omega
theorem C5.cells_up (x : C5) (j : Nat) (h : j < 5) : (x.up j).cells = x.cells.set j (.int .i64 (x.nth j + 1)) := by
  match j, h with
  | 0, _ => rfl
  | 1, _ => rfl
  | 2, _ => rfl
  | 3, _ => rfl
  | 4, _ => rfl
  | n + 5, h => omega
/-- a cell of the row of counts is one more -/
theorem cellsC_up {M : List C5} {i : Nat} {x : C5} (hx : M[i]? = some x) (j : Nat) (hj : j < 5) : cellsC (M.set i (x.up j)) = (cellsC M).set (i * 5 + j) (.int .i64 (x.nth j + 1)) := by
  have hi : i < M.length := (List.getElem?_eq_some_iff.1 hx).1
  apply List.ext_getElem?
  intro k
  rw [cellsC_set M i _ hi]
  by_cases h : k / 5 = i
  · rw [if_pos h, C5.cells_up x j hj]
    have hkd : k = i * 5 + k % 5 := by omega
    have h2 := cellsC_get M i (k % 5) x hx (Nat.mod_lt _ (by decide))
    rw [← hkd] at h2
    by_cases hm : j = k % 5
    · subst hm
      rw [List.getElem?_set_self (by simp [C5.cells]; omega), ← hkd, List.getElem?_set_self (by rw [cellsC_len]; omega)]
    · rw [List.getElem?_set_ne hm, List.getElem?_set_ne (by omega), h2]
  · rw [if_neg h, List.getElem?_set_ne (by omega)]
theorem cntK_snoc (k : Nat) (kind : Int) (ts : List E6) (x : E6) : cntK k kind (ts ++ [x]) = cntK k kind ts + if x.d.n = (k : Int) ∧ x.d.k = kind then 1 else 0 := by
  unfold cntK
  rw [List.filter_append, List.length_append]
  by_cases h : x.d.n = (k : Int) ∧ x.d.k = kind
  · simp [h.1, h.2]
  · have h' : (decide (x.d.n = (k : Int)) && decide (x.d.k = kind)) = false := by
      rw [← Bool.decide_and]; exact decide_eq_false h
    rw [if_neg h]
    simp only [List.filter_cons, h', List.filter_nil]
    simp
theorem cntB_snoc (k : Nat) (ts : List E6) (x : E6) : cntB k (ts ++ [x]) = cntB k ts + if x.d.n = (k : Int) ∧ x.b = true then 1 else 0 := by
  unfold cntB
  rw [List.filter_append, List.length_append]
  by_cases h : x.d.n = (k : Int) ∧ x.b = true
  · simp [h.1, h.2]
  · have h' : (decide (x.d.n = (k : Int)) && x.b) = false := by
      by_cases h1 : x.d.n = (k : Int)
      · cases hb : x.b
        · simp
        · exact absurd ⟨h1, hb⟩ h
      · simp [h1]
    rw [if_neg h]
    simp only [List.filter_cons, h', List.filter_nil]
    simp
/-- what an event does to its node's counts -/
def C5.on (x : C5) (e : E6) : C5 := if e.b = true then (x.up (e.d.k - 1).toNat).up 4 else x.up (e.d.k - 1).toNat
theorem cntL_snoc (k : Nat) (ts : List E6) (x : E6) (hk : 1 ≤ x.d.k ∧ x.d.k ≤ 4) : cntL k (ts ++ [x]) = if x.d.n = (k : Int) then (cntL k ts).on x else cntL k ts := by
  unfold cntL C5.on
  rw [cntK_snoc, cntK_snoc, cntK_snoc, cntK_snoc, cntB_snoc]
  by_cases h : x.d.n = (k : Int)
  · rw [if_pos h]
    obtain ⟨h1, h4⟩ := hk
    obtain h5 | h5 | h5 | h5 : x.d.k = 1 ∨ x.d.k = 2 ∨ x.d.k = 3 ∨ x.d.k = 4 := by omega
    all_goals
      rw [h5]
      cases hb : x.b <;> simp [h, C5.up]
  · rw [if_neg h]
    simp [h]
theorem cntsL_snoc (n : Nat) {k : Nat} (ts : List E6) {x : E6} (hx : x.d.n = (k : Int)) (hk : 1 ≤ x.d.k ∧ x.d.k ≤ 4) : cntsL n (ts ++ [x]) = (cntsL n ts).set k ((cntL k ts).on x) := by
  apply List.ext_getElem?
  intro j
  by_cases hj : j < n
  · rw [cntsL_get hj, cntL_snoc _ _ _ hk]
    by_cases h : k = j
    · subst h
      rw [List.getElem?_set_self (by rw [cntsL_len]; exact hj), if_pos hx]
    · rw [List.getElem?_set_ne h, cntsL_get hj, if_neg (by rw [hx]; omega)]
  · rw [List.getElem?_eq_none (by rw [cntsL_len]; omega), List.getElem?_eq_none (by rw [List.length_set, cntsL_len]; omega)]
theorem cnt_bd (k : Nat) (ts : List E6) (j : Nat) : 0 ≤ (cntL k ts).nth j ∧ (cntL k ts).nth j ≤ ts.length := by
  have h1 : ∀ kind, 0 ≤ cntK k kind ts ∧ cntK k kind ts ≤ ts.length := fun kind => ⟨Int.natCast_nonneg _, Int.ofNat_le.2 (List.length_filter_le _ _)⟩
  have h2 : 0 ≤ cntB k ts ∧ cntB k ts ≤ ts.length := ⟨Int.natCast_nonneg _, Int.ofNat_le.2 (List.length_filter_le _ _)⟩
  unfold C5.nth
  split
  · exact h1 1
  · exact h1 2
  · exact h1 3
  · exact h1 4
  · exact h2
end Go.Proofs.Ytffhfpdmfegcpab.tally
