/- A slice of plain structs that came in: its cells, row by row. No function of the program is mentioned. -/
import Derived.Test.YtffhfpdmfegcpacFlat
import Derived.Deep.Slices
namespace Go.Proofs.Ytffhfpdmfegcpac.table
open Go.ChangeShapes Go.WideShapes Go.ChangeAt Go.RowKit
open Go.Proofs.Ytffhfpdmfegcpac.base Go.Proofs.Ytffhfpdmfegcpac.flat
set_option linter.unusedVariables false
set_option linter.unusedSimpArgs false

/-- the cells behind address a hold the rows rs, each n cells wide -/
def RowsAt (n : Nat) (w : World) (a : Option Addr) (rs : List (List Value)) : Prop :=
  rs = [] ∨ ∃ b off, a = some ⟨b, off, none⟩ ∧ ∀ i r, rs[i]? = some r → r.length = n ∧ ∀ j v, r[j]? = some v → w.cell? ⟨b, off + i * n + j, none⟩ = some v

section
variable {H : Type} {enc : TypeId × Value → H} {P : Program} {w : World} {base : Nat} {spare : Nat → Bool} {held : Bool}

theorem open_rows {m : Nat} {t e : TypeId} {a : Option Addr} {len cap : Nat} {d : DataW H} {ps : List MemPlace} (ks : List CK) (ht : P.underlying t = some (.slice e)) (hk : flat P m e = some ks) (hl : ks.length = P.cellsOf e) (hp : 0 < ks.length)
    (h : DataW.Trod enc P w base spare held t (.slice a len cap) d ps) :
    len ≤ cap ∧ cap ≤ maxLen ∧ (a = none → len = 0) ∧ ∃ rs : List (List Value), rs.length = len ∧ RowsAt ks.length w a rs ∧ ∀ r ∈ rs, All2 enc P w base spare held ks r := by
  obtain ⟨fuel, hf⟩ := h
  have hf' : DataW.trod enc P w base spare held fuel t [.slice a len cap] = some (d, ps) := hf
  rcases Deep.open_slice ht hf' with ⟨h1, _⟩ | ⟨a', len', cap', m', n, D, Pl, h1, hb, hle, hc, hm, _, hx⟩
  · injection h1 with h1 _
    injection h1 with h1 h2 h3
    subst h1; subst h2; subst h3
    exact ⟨Nat.le_refl _, by decide, fun _ => rfl, [], rfl, .inl rfl, (fun r hr => nomatch hr)⟩
  · injection h1 with h1 _
    injection h1 with h1 h2 h3
    subst h1; subst h2; subst h3
    refine ⟨hle, hc, (fun h => nomatch h), ?_⟩
    have hmm : len ≤ m' := by rw [hm]; split <;> omega
    have each : ∀ i, i < len → ∃ r : List Value, (All2 enc P w base spare held ks r ∧ r.length = ks.length) ∧ ∀ j v, r[j]? = some v → w.cell? (a'.add (i * ks.length + j)) = some v := by
      intro i hi
      obtain ⟨cs, h1, h2⟩ := hx i (by omega)
      obtain ⟨hb', hlen, hcell⟩ := World.cells?_some h1
      have h3 := flat_all hk (fun c hc => by rw [hc]; exact hl) h2
      refine ⟨cs, ⟨h3, all2_length h3⟩, fun j v hj => ?_⟩
      have hj' : j < P.cellsOf e := by rw [← hlen]; exact (List.getElem?_eq_some_iff.1 hj).1
      have h4 := hcell j hj'
      rw [hl]
      rw [show a'.add (i * P.cellsOf e + j) = (a'.add (i * P.cellsOf e)).add j from (Deep.add_add _ _ _).symm]
      rw [h4]
      rw [List.getElem?_eq_some_iff] at hj
      obtain ⟨hj1, hj2⟩ := hj
      simp [← hj2]
    obtain ⟨R, hR⟩ := Deep.choose_lt each
    refine ⟨(List.range len).map R, by simp, ?_, ?_⟩
    · rcases Nat.eq_zero_or_pos len with h0 | h0
      · left; subst h0; rfl
      · right
        have hs : a'.spot = none := by
          obtain ⟨⟨_, hl0⟩, hc0⟩ := hR 0 h0
          obtain ⟨x, hx0⟩ := get_some (xs := R 0) (k := 0) (by omega)
          have h7 := hc0 0 x hx0
          rw [Nat.zero_mul] at h7
          simp only [World.cell?, Addr.add] at h7
          cases hsp : a'.spot with
          | none => rfl
          | some s => simp [hsp] at h7; split at h7 <;> cases h7
        obtain ⟨b, off, sp⟩ := a'
        simp only at hs
        subst hs
        refine ⟨b, off, rfl, fun i r hr => ?_⟩
        have hi : i < len := by have := (List.getElem?_eq_some_iff.1 hr).1; simpa using this
        have hr' : R i = r := by
          rw [List.getElem?_map, List.getElem?_range hi] at hr
          exact Option.some.inj hr
        subst hr'
        obtain ⟨⟨_, hl0⟩, hc0⟩ := hR i hi
        refine ⟨hl0, fun j v hj => ?_⟩
        have h7 := hc0 j v hj
        rw [show (⟨b, off, none⟩ : Addr).add (i * ks.length + j) = ⟨b, off + i * ks.length + j, none⟩ by
          unfold Addr.add; split
          · rename_i h; rw [Nat.add_assoc, h]; rfl
          · rw [Nat.add_assoc]] at h7
        exact h7
    · intro r hr
      simp only [List.mem_map, List.mem_range] at hr
      obtain ⟨i, hi, rfl⟩ := hr
      exact (hR i hi).1.1
end

/-- rows of records -/
theorem rows_of {α : Type} {cells : α → List Value} {good : α → Prop} : ∀ {rs : List (List Value)}, (∀ r ∈ rs, ∃ x, r = cells x ∧ good x) → ∃ xs : List α, rs = xs.map cells ∧ ∀ x ∈ xs, good x
  | [], _ => ⟨[], rfl, fun _ h => by cases h⟩
  | r :: rs, h => by
    obtain ⟨x, rfl, hx⟩ := h r (by simp)
    obtain ⟨xs, rfl, hxs⟩ := rows_of (rs := rs) fun r hr => h r (by simp [hr])
    exact ⟨x :: xs, rfl, fun y hy => by rcases List.mem_cons.1 hy with rfl | hy; exact hx; exact hxs _ hy⟩

/-- a deed's four numbers -/
structure D4 where
  n : Int
  k : Int
  a : Int
  v : Int
def D4.cells (x : D4) : List Value := [.int .i64 x.n, .int .i64 x.k, .int .i64 x.a, .int .u64 x.v]
def D4.Ok (x : D4) : Prop := (Lit.int .i64 x.n).wf = true ∧ (Lit.int .i64 x.k).wf = true ∧ (Lit.int .i64 x.a).wf = true ∧ (Lit.int .u64 x.v).wf = true
def DeedsAt (w : World) (a : Option Addr) (xs : List D4) : Prop := RowsAt 4 w a (xs.map D4.cells)

section
variable {H : Type} {enc : TypeId × Value → H} {P : Program} {w : World} {base : Nat} {spare : Nat → Bool} {held : Bool}
theorem open_deeds {m : Nat} {t e : TypeId} {a : Option Addr} {len cap : Nat} {d : DataW H} {ps : List MemPlace} (ht : P.underlying t = some (.slice e)) (hk : flat P m e = some [.int .i64, .int .i64, .int .i64, .int .u64]) (hl : 4 = P.cellsOf e)
    (h : DataW.Trod enc P w base spare held t (.slice a len cap) d ps) :
    len ≤ cap ∧ cap ≤ maxLen ∧ (a = none → len = 0) ∧ ∃ xs : List D4, xs.length = len ∧ DeedsAt w a xs ∧ ∀ x ∈ xs, x.Ok := by
  obtain ⟨h1, h2, h3, rs, h4, h5, h6⟩ := open_rows _ ht hk hl (by decide) h
  obtain ⟨xs, rfl, hxs⟩ := rows_of (cells := D4.cells) (good := D4.Ok) (rs := rs) fun r hr => by
    obtain ⟨a, b, c, d, rfl, wa, wb, wc, wd⟩ := all2_deed (h6 r hr)
    exact ⟨⟨a, b, c, d⟩, rfl, wa, wb, wc, wd⟩
  exact ⟨h1, h2, h3, xs, by simpa using h4, h5, hxs⟩
end

theorem DeedsAt.at {w : World} {b off : Nat} {xs : List D4} (h : DeedsAt w (some ⟨b, off, none⟩) xs) {i : Nat} {x : D4} (hx : xs[i]? = some x) :
    w.cell? ⟨b, off + i * 4, none⟩ = some (.int .i64 x.n) ∧ w.cell? ⟨b, off + i * 4 + 1, none⟩ = some (.int .i64 x.k) ∧ w.cell? ⟨b, off + i * 4 + 2, none⟩ = some (.int .i64 x.a) ∧ w.cell? ⟨b, off + i * 4 + 3, none⟩ = some (.int .u64 x.v) := by
  rcases h with h | ⟨b', off', h1, h2⟩
  · obtain rfl : xs = [] := by simpa using h
    cases hx
  · injection h1 with h1
    injection h1 with h3 h4
    subst h3; subst h4
    have h5 := (h2 i x.cells (by simp [hx])).2
    exact ⟨h5 0 _ rfl, h5 1 _ rfl, h5 2 _ rfl, h5 3 _ rfl⟩
end Go.Proofs.Ytffhfpdmfegcpac.table
