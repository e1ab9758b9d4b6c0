/- Caches that came in: rows of ways, and the ways of each. No function of the program is mentioned. -/
import Derived.Test.YtffhfpdmfegcpacTable2
namespace Go.Proofs.Ytffhfpdmfegcpac.ways
open Go.ChangeShapes Go.WideShapes Go.ChangeAt Go.RowKit
open Go.Proofs.Ytffhfpdmfegcpac.base Go.Proofs.Ytffhfpdmfegcpac.flat Go.Proofs.Ytffhfpdmfegcpac.table
set_option linter.unusedVariables false
set_option linter.unusedSimpArgs false

/-- a way: state, line, four words -/
structure W6 where
  s : Int
  l : Int
  a : Int
  b : Int
  c : Int
  d : Int
def W6.cells (x : W6) : List Value := [.int .i64 x.s, .int .i64 x.l, .int .u64 x.a, .int .u64 x.b, .int .u64 x.c, .int .u64 x.d]
def W6.Ok (x : W6) : Prop := (Lit.int .i64 x.s).wf = true ∧ (Lit.int .i64 x.l).wf = true ∧ (Lit.int .u64 x.a).wf = true ∧ (Lit.int .u64 x.b).wf = true ∧ (Lit.int .u64 x.c).wf = true ∧ (Lit.int .u64 x.d).wf = true
def WaysAt (w : World) (a : Option Addr) (xs : List W6) : Prop := RowsAt 6 w a (xs.map W6.cells)
/-- a row: its ways, and its tree -/
structure R4 where
  ways : List W6
  x : Bool
  y : Bool
  z : Bool
def R4.Ok (r : R4) : Prop := ∀ x ∈ r.ways, x.Ok
/-- the rows behind address a -/
def CacheAt (w : World) (a : Option Addr) (rs : List R4) : Prop :=
  rs = [] ∨ ∃ b off, a = some ⟨b, off, none⟩ ∧ ∀ i r, rs[i]? = some r → ∃ p c, (w.cell? ⟨b, off + i * 4, none⟩ = some (.slice p r.ways.length c) ∧ w.cell? ⟨b, off + i * 4 + 1, none⟩ = some (.bool r.x) ∧ w.cell? ⟨b, off + i * 4 + 2, none⟩ = some (.bool r.y) ∧ w.cell? ⟨b, off + i * 4 + 3, none⟩ = some (.bool r.z)) ∧ r.ways.length ≤ c ∧ c ≤ maxLen ∧ (p = none → r.ways.length = 0) ∧ WaysAt w p r.ways

section
variable {H : Type} {enc : TypeId × Value → H} {P : Program} {w : World} {base : Nat} {spare : Nat → Bool} {held : Bool}
theorem all2_way {cs : List Value} (h : All2 enc P w base spare held [.int .i64, .int .i64, .int .u64, .int .u64, .int .u64, .int .u64] cs) :
    ∃ x : W6, cs = x.cells ∧ x.Ok := by
  obtain ⟨_, _, rfl, ⟨a, rfl, ha⟩, g1⟩ := all2_cons h
  obtain ⟨_, _, rfl, ⟨b, rfl, hb⟩, g2⟩ := all2_cons g1
  obtain ⟨_, _, rfl, ⟨c, rfl, hc⟩, g3⟩ := all2_cons g2
  obtain ⟨_, _, rfl, ⟨d, rfl, hd⟩, g4⟩ := all2_cons g3
  obtain ⟨_, _, rfl, ⟨e, rfl, he⟩, g5⟩ := all2_cons g4
  obtain ⟨_, _, rfl, ⟨f, rfl, hf⟩, g6⟩ := all2_cons g5
  obtain rfl := all2_nil g6
  exact ⟨⟨a, b, c, d, e, f⟩, rfl, ha, hb, hc, hd, he, hf⟩
theorem open_ways {m : Nat} {t e : TypeId} {a : Option Addr} {len cap : Nat} {d : DataW H} {ps : List MemPlace} (ht : P.underlying t = some (.slice e)) (hk : flat P m e = some [.int .i64, .int .i64, .int .u64, .int .u64, .int .u64, .int .u64]) (hl : 6 = P.cellsOf e)
    (h : DataW.Trod enc P w base spare held t (.slice a len cap) d ps) :
    len ≤ cap ∧ cap ≤ maxLen ∧ (a = none → len = 0) ∧ ∃ xs : List W6, xs.length = len ∧ WaysAt w a xs ∧ ∀ x ∈ xs, x.Ok := by
  obtain ⟨h1, h2, h3, rs, h4, h5, h6⟩ := open_rows _ ht hk hl (by decide) h
  obtain ⟨xs, rfl, hxs⟩ := rows_of (cells := W6.cells) (good := W6.Ok) (rs := rs) fun r hr => all2_way (h6 r hr)
  exact ⟨h1, h2, h3, xs, by simpa using h4, h5, hxs⟩
/-- a slice cell of a type is a slice -/
theorem slice_cell {t e : TypeId} {v : Value} {fuel : Nat} {y : DataW H × List MemPlace} (ht : P.underlying t = some (.slice e)) (h : DataW.trod enc P w base spare held fuel t [v] = some y) : ∃ p n c, v = .slice p n c := by
  rcases DataW.trod_slice ht h with ⟨h1, _⟩ | ⟨a, len, cap, elems, rest, m, _, h1, _⟩
  · injection h1 with h1; exact ⟨none, 0, 0, h1⟩
  · injection h1 with h1; exact ⟨some a, len, cap, h1⟩
theorem open_cache {m k : Nat} {t e tw ew : TypeId} {a : Option Addr} {len cap : Nat} {d : DataW H} {ps : List MemPlace} (ht : P.underlying t = some (.slice e)) (hk : flat P m e = some [.other tw, .bool, .bool, .bool]) (hl : 4 = P.cellsOf e)
    (htw : P.underlying tw = some (.slice ew)) (hkw : flat P k ew = some [.int .i64, .int .i64, .int .u64, .int .u64, .int .u64, .int .u64]) (hlw : 6 = P.cellsOf ew)
    (h : DataW.Trod enc P w base spare held t (.slice a len cap) d ps) :
    len ≤ cap ∧ cap ≤ maxLen ∧ (a = none → len = 0) ∧ ∃ rs : List R4, rs.length = len ∧ CacheAt w a rs ∧ ∀ r ∈ rs, r.Ok := by
  obtain ⟨h1, h2, h3, rs, h4, h5, h6⟩ := open_rows _ ht hk hl (Nat.zero_lt_succ 3) h
  have each : ∀ r ∈ rs, ∃ x : R4, (∃ p c, r = [.slice p x.ways.length c, .bool x.x, .bool x.y, .bool x.z] ∧ x.ways.length ≤ c ∧ c ≤ maxLen ∧ (p = none → x.ways.length = 0) ∧ WaysAt w p x.ways) ∧ x.Ok := by
    intro r hr
    obtain ⟨v, _, rfl, ⟨fuel, y, hv⟩, g1⟩ := all2_cons (h6 r hr)
    obtain ⟨b1, b2, b3, rfl⟩ := all2_tree g1
    obtain ⟨p, n, c, rfl⟩ := slice_cell htw hv
    obtain ⟨k1, k2, k3, xs, rfl, k4, k5⟩ := open_ways htw hkw hlw ⟨fuel, hv⟩
    exact ⟨⟨xs, b1, b2, b3⟩, ⟨p, c, rfl, k1, k2, k3, k4⟩, k5⟩
  have all : ∃ xs : List R4, xs.length = rs.length ∧ (∀ x ∈ xs, x.Ok) ∧ ∀ (i : Nat) (x : R4), xs[i]? = some x → ∃ p c, rs[i]? = some [.slice p x.ways.length c, .bool x.x, .bool x.y, .bool x.z] ∧ x.ways.length ≤ c ∧ c ≤ maxLen ∧ (p = none → x.ways.length = 0) ∧ WaysAt w p x.ways := by
    clear h4 h5 h6
    induction rs with
    | nil => exact ⟨[], rfl, (fun x hx => nomatch hx), fun i x hx => by simp at hx⟩
    | cons r rs ih =>
      obtain ⟨x, ⟨p, c, rfl, q⟩, hx⟩ := each r (by simp)
      obtain ⟨xs, i1, i2, i3⟩ := ih fun r hr => each r (by simp [hr])
      refine ⟨x :: xs, by simp [i1], List.forall_mem_cons.2 ⟨hx, i2⟩, fun i y hy => ?_⟩
      cases i with
      | zero => obtain rfl : x = y := by simpa using hy
                exact ⟨p, c, rfl, q⟩
      | succ i => obtain ⟨p, c, g, q⟩ := i3 i y (by simpa using hy)
                  exact ⟨p, c, by simpa using g, q⟩
  obtain ⟨xs, i1, i2, i3⟩ := all
  refine ⟨h1, h2, h3, xs, by rw [i1, h4], ?_, i2⟩
  rcases h5 with rfl | ⟨b, off, h7, h8⟩
  · left; exact List.length_eq_zero_iff.1 i1
  · refine .inr ⟨b, off, h7, fun i r hr => ?_⟩
    obtain ⟨p, c, g, q⟩ := i3 i r hr
    have h9 := (h8 i _ g).2
    exact ⟨p, c, ⟨h9 0 _ rfl, h9 1 _ rfl, h9 2 _ rfl, h9 3 _ rfl⟩, q⟩
end

theorem WaysAt.below {w w' : World} {a : Option Addr} {xs : List W6} (h : WaysAt w a xs) (hb : Below w.heap.size w w') : WaysAt w' a xs := RowsAt.below h hb
theorem WaysAt.form {w : World} {a : Option Addr} {xs : List W6} (h : WaysAt w a xs) {i : Nat} {x : W6} (hx : xs[i]? = some x) : ∃ b off, a = some ⟨b, off, none⟩ :=
  RowsAt.form h (i := i) (r := x.cells) (by simp [hx])
theorem WaysAt.at {w : World} {b off : Nat} {xs : List W6} (h : WaysAt w (some ⟨b, off, none⟩) xs) {i : Nat} {x : W6} (hx : xs[i]? = some x) :
    w.cell? ⟨b, off + i * 6, none⟩ = some (.int .i64 x.s) ∧ w.cell? ⟨b, off + i * 6 + 1, none⟩ = some (.int .i64 x.l) ∧ w.cell? ⟨b, off + i * 6 + 2, none⟩ = some (.int .u64 x.a) ∧ w.cell? ⟨b, off + i * 6 + 3, none⟩ = some (.int .u64 x.b) ∧ w.cell? ⟨b, off + i * 6 + 4, none⟩ = some (.int .u64 x.c) ∧ w.cell? ⟨b, off + i * 6 + 5, none⟩ = some (.int .u64 x.d) := by
  have hr : (xs.map W6.cells)[i]? = some x.cells := by simp [hx]
  exact ⟨RowsAt.at h hr (j := 0) rfl, RowsAt.at h hr (j := 1) rfl, RowsAt.at h hr (j := 2) rfl, RowsAt.at h hr (j := 3) rfl, RowsAt.at h hr (j := 4) rfl, RowsAt.at h hr (j := 5) rfl⟩
theorem WaysAt.take {w : World} {a : Option Addr} {xs : List W6} (h : WaysAt w a xs) (k : Nat) : WaysAt w a (xs.take k) := by
  rcases h with h | ⟨b, off, h1, h2⟩
  · obtain rfl : xs = [] := by simpa using h
    left; simp
  · refine .inr ⟨b, off, h1, fun i r hr => h2 i r ?_⟩
    rw [List.map_take, List.getElem?_take] at hr
    split at hr
    · exact hr
    · cases hr
theorem CacheAt.below {w w' : World} {a : Option Addr} {rs : List R4} (h : CacheAt w a rs) (hb : Below w.heap.size w w') : CacheAt w' a rs := by
  rcases h with h | ⟨b, off, h1, h2⟩
  · exact .inl h
  · refine .inr ⟨b, off, h1, fun i r hr => ?_⟩
    obtain ⟨p, c, ⟨c0, c1, c2, c3⟩, q1, q2, q3, q4⟩ := h2 i r hr
    have hl := lt_of_cell c0
    exact ⟨p, c, ⟨by rw [hb.cell (p := ⟨b, _, none⟩) hl]; exact c0, by rw [hb.cell (p := ⟨b, _, none⟩) hl]; exact c1, by rw [hb.cell (p := ⟨b, _, none⟩) hl]; exact c2, by rw [hb.cell (p := ⟨b, _, none⟩) hl]; exact c3⟩, q1, q2, q3, q4.below hb⟩
theorem CacheAt.form {w : World} {a : Option Addr} {rs : List R4} (h : CacheAt w a rs) {i : Nat} {r : R4} (hr : rs[i]? = some r) : ∃ b off, a = some ⟨b, off, none⟩ := by
  rcases h with rfl | ⟨b, off, h1, _⟩
  · cases hr
  · exact ⟨b, off, h1⟩
theorem CacheAt.at {w : World} {b off : Nat} {rs : List R4} (h : CacheAt w (some ⟨b, off, none⟩) rs) {i : Nat} {r : R4} (hr : rs[i]? = some r) :
    ∃ p c, (w.cell? ⟨b, off + i * 4, none⟩ = some (.slice p r.ways.length c) ∧ w.cell? ⟨b, off + i * 4 + 1, none⟩ = some (.bool r.x) ∧ w.cell? ⟨b, off + i * 4 + 2, none⟩ = some (.bool r.y) ∧ w.cell? ⟨b, off + i * 4 + 3, none⟩ = some (.bool r.z)) ∧ r.ways.length ≤ c ∧ c ≤ maxLen ∧ (p = none → r.ways.length = 0) ∧ WaysAt w p r.ways := by
  rcases h with rfl | ⟨b', off', h1, h2⟩
  · cases hr
  · injection h1 with h1
    injection h1 with h3 h4
    subst h3; subst h4
    exact h2 i r hr
end Go.Proofs.Ytffhfpdmfegcpac.ways
