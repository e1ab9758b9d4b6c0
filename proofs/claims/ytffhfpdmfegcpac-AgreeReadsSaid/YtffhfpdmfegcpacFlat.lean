/- A value of plain type (integers, bools, structs and arrays of these) that can be read as data: what its cells are, one by one. No function of the program is mentioned. -/
import Derived.Test.YtffhfpdmfegcpacBase
namespace Go.Proofs.Ytffhfpdmfegcpac.flat
open Go.ChangeShapes Go.WideShapes Go.ChangeAt Go.RowKit
set_option linter.unusedVariables false
set_option linter.unusedSimpArgs false

/-- the kinds of a cell -/
inductive CK where
  | int (k : IntKind)
  | bool
  | other (t : TypeId)

def flatL (P : Program) (F : TypeId → Option (List CK)) : Nat → List (Nat × TypeId) → Option (List CK)
  | _, [] => some []
  | o, f :: fs => if f.1 = o then (F f.2).bind fun l => if l.length = P.cellsOf f.2 then (flatL P F (o + l.length) fs).map fun r => l ++ r else none else none

def flat (P : Program) : Nat → TypeId → Option (List CK)
  | 0, _ => none
  | n + 1, t => match P.underlying t with
    | some .bool => some [.bool]
    | some (.int k) => some [.int k]
    | some (.struct fs) => flatL P (flat P n) 0 (fs.toList.map fun f => (f.offset, f.type))
    | some (.array m e) => flatL P (flat P n) 0 ((List.range m).map fun i => (i * P.cellsOf e, e))
    | some (.slice _) => some [.other t]
    | some .string => some [.other t]
    | _ => none

section
variable {H : Type} (enc : TypeId × Value → H) (P : Program) (w : World) (base : Nat) (spare : Nat → Bool) (held : Bool)

def Fits (k : CK) (v : Value) : Prop :=
  match k with
  | .int k => ∃ n, v = .int k n ∧ (Lit.int k n).wf = true
  | .bool => ∃ b, v = .bool b
  | .other t => ∃ fuel y, DataW.trod enc P w base spare held fuel t [v] = some y

def All2 : List CK → List Value → Prop
  | [], [] => True
  | k :: ks, v :: vs => Fits enc P w base spare held k v ∧ All2 ks vs
  | _, _ => False

variable {enc P w base spare held}

theorem all2_append {a b : List CK} : ∀ {x y : List Value}, All2 enc P w base spare held a x → All2 enc P w base spare held b y → All2 enc P w base spare held (a ++ b) (x ++ y) := by
  induction a with
  | nil => intro x y h k; cases x with
    | nil => exact k
    | cons _ _ => exact h.elim
  | cons c a ih => intro x y h k; cases x with
    | nil => exact h.elim
    | cons v x => exact ⟨h.1, ih h.2 k⟩

theorem all2_length {a : List CK} : ∀ {x : List Value}, All2 enc P w base spare held a x → x.length = a.length := by
  induction a with
  | nil => intro x h; cases x with
    | nil => rfl
    | cons _ _ => exact h.elim
  | cons c a ih => intro x h; cases x with
    | nil => exact h.elim
    | cons v x => simp [ih h.2]

theorem flatL_all {F : TypeId → Option (List CK)} {m : Nat} (hF : ∀ t cs ks y, F t = some ks → ks.length = P.cellsOf t → DataW.trod enc P w base spare held m t cs = some y → All2 enc P w base spare held ks cs) (cs : List Value) :
    ∀ (fs : List (Nat × TypeId)) (o : Nat) (ks : List CK), flatL P F o fs = some ks → (∀ f ∈ fs, ∃ y, DataW.trod enc P w base spare held m f.2 ((cs.drop f.1).take (P.cellsOf f.2)) = some y) →
      All2 enc P w base spare held ks ((cs.drop o).take ks.length) := by
  intro fs
  induction fs with
  | nil => intro o ks h _; simp [flatL] at h; subst h; simp [All2]
  | cons f fs ih =>
    intro o ks h hy
    simp only [flatL] at h
    split at h
    · rename_i ho
      obtain ⟨l, hl, h⟩ := Option.bind_eq_some_iff.1 h
      split at h
      · rename_i hlen
        obtain ⟨r, hr, rfl⟩ := Option.map_eq_some_iff.1 h
        obtain ⟨y, h1⟩ := hy f (by simp)
        have a1 := hF _ _ _ _ hl hlen h1
        rw [ho, ← hlen] at a1
        have a2 := ih _ _ hr (fun g hg => hy g (by simp [hg]))
        have := all2_append a1 a2
        rw [List.length_append, List.take_add, List.drop_drop]
        exact this
      · cases h
    · cases h

theorem flat_all {n : Nat} : ∀ {t : TypeId} {ks : List CK} {fuel : Nat} {cs : List Value} {x : DataW H × List MemPlace}, flat P n t = some ks → (∀ c, c = P.cellsOf t → ks.length = c) → DataW.trod enc P w base spare held fuel t cs = some x → All2 enc P w base spare held ks cs := by
  suffices h : ∀ (t : TypeId) (ks : List CK) (fuel : Nat) (cs : List Value) (x : DataW H × List MemPlace), flat P n t = some ks → DataW.trod enc P w base spare held fuel t cs = some x → All2 enc P w base spare held ks (cs.take ks.length) ∧ (cs.length = ks.length ∨ cs.length = P.cellsOf t) from by
    intro t ks fuel cs x h1 h2 h3
    obtain ⟨h4, h5⟩ := h t ks fuel cs x h1 h3
    have : cs.length = ks.length := by rcases h5 with h5 | h5; exact h5; rw [h5, h2 _ rfl]
    rwa [List.take_of_length_le (by omega)] at h4
  induction n with
  | zero => intro t ks fuel cs x h; simp [flat] at h
  | succ n ih =>
    intro t ks fuel cs x h hf
    simp only [flat] at h
    split at h
    · rename_i hu
      cases h
      cases fuel with
      | zero => simp [DataW.trod] at hf
      | succ m =>
        unfold DataW.trod at hf
        rw [hu] at hf
        split at hf <;> simp_all [All2, Fits]
    · rename_i k hu
      cases h
      obtain ⟨m, rfl, _, hw⟩ := DataW.trod_int hu hf
      exact ⟨⟨⟨m, rfl, hw⟩, trivial⟩, .inl rfl⟩
    · rename_i fs hu
      obtain ⟨xs, m, rfl, rfl, hl, hlen, hg⟩ := DataW.trod_struct hu hf
      have := flatL_all (m := m) (F := flat P n) (P := P) (enc := enc) (w := w) (base := base) (spare := spare) (held := held) ?_ cs _ _ _ h ?_
      · exact ⟨by simpa using this, .inr hl⟩
      · intro t cs ks y h1 h2 h3
        obtain ⟨h4, h5⟩ := ih _ _ _ _ _ h1 h3
        have : cs.length = ks.length := by omega
        rwa [List.take_of_length_le (by omega)] at h4
      · intro f hf
        obtain ⟨g, hg1, rfl⟩ := List.mem_map.1 hf
        obtain ⟨i, hi, hi2⟩ := List.getElem_of_mem hg1
        have h6 := hg i g (by rw [← hi2]; simp at hi ⊢)
        rw [List.getElem?_eq_getElem (by rw [hlen]; simpa using hi)] at h6
        exact ⟨_, h6⟩
    · rename_i k e hu
      obtain ⟨xs, m, rfl, rfl, hl, hlen, hg⟩ := DataW.trod_array hu hf
      have := flatL_all (m := m) (F := flat P n) (P := P) (enc := enc) (w := w) (base := base) (spare := spare) (held := held) ?_ cs _ _ _ h ?_
      · exact ⟨by simpa using this, .inr hl⟩
      · intro t cs ks y h1 h2 h3
        obtain ⟨h4, h5⟩ := ih _ _ _ _ _ h1 h3
        have : cs.length = ks.length := by omega
        rwa [List.take_of_length_le (by omega)] at h4
      · intro f hf
        obtain ⟨i, hi, rfl⟩ := List.mem_map.1 hf
        have hi2 := List.mem_range.1 hi
        have h6 := hg i hi2
        rw [List.getElem?_eq_getElem (by rw [hlen]; exact hi2)] at h6
        exact ⟨_, h6⟩
    · rename_i e hu
      cases h
      rcases DataW.trod_slice hu hf with ⟨h1, _⟩ | ⟨a, len, cap, elems, rest, m, _, h1, _⟩
      · subst h1
        exact ⟨⟨⟨_, _, hf⟩, trivial⟩, .inl rfl⟩
      · subst h1
        exact ⟨⟨⟨_, _, hf⟩, trivial⟩, .inl rfl⟩
    · rename_i hu
      cases h
      obtain ⟨s, h1, _⟩ := DataW.trod_string hu hf
      subst h1
      exact ⟨⟨⟨_, _, hf⟩, trivial⟩, .inl rfl⟩
    · cases h

/-- cells that are integers of one kind -/
theorem all2_ints {k : IntKind} : ∀ {n : Nat} {cs : List Value}, All2 enc P w base spare held (List.replicate n (.int k)) cs → ∃ xs : List Int, xs.length = n ∧ cs = xs.map (Value.int k) ∧ ∀ x ∈ xs, (Lit.int k x).wf = true := by
  intro n
  induction n with
  | zero => intro cs h; cases cs with
    | nil => exact ⟨[], rfl, rfl, by simp⟩
    | cons _ _ => exact h.elim
  | succ n ih => intro cs h; cases cs with
    | nil => exact h.elim
    | cons c cs =>
      obtain ⟨⟨x, rfl, hx⟩, h⟩ := h
      obtain ⟨xs, h1, rfl, h2⟩ := ih h
      exact ⟨x :: xs, by simp [h1], rfl, List.forall_mem_cons.2 ⟨hx, h2⟩⟩

theorem all2_cons {k : CK} {ks : List CK} {cs : List Value} (h : All2 enc P w base spare held (k :: ks) cs) : ∃ v vs, cs = v :: vs ∧ Fits enc P w base spare held k v ∧ All2 enc P w base spare held ks vs := by
  cases cs with
  | nil => exact h.elim
  | cons v vs => exact ⟨v, vs, rfl, h.1, h.2⟩
theorem all2_nil {cs : List Value} (h : All2 enc P w base spare held [] cs) : cs = [] := by
  cases cs with
  | nil => rfl
  | cons v vs => exact h.elim
theorem all2_cfg {cs : List Value} (h : All2 enc P w base spare held [.int .i64, .int .i64, .int .i64, .int .i64] cs) :
    ∃ a b c d : Int, cs = [.int .i64 a, .int .i64 b, .int .i64 c, .int .i64 d] ∧ (Lit.int .i64 a).wf = true ∧ (Lit.int .i64 b).wf = true ∧ (Lit.int .i64 c).wf = true ∧ (Lit.int .i64 d).wf = true := by
  obtain ⟨_, _, rfl, ⟨a, rfl, ha⟩, g1⟩ := all2_cons h
  obtain ⟨_, _, rfl, ⟨b, rfl, hb⟩, g2⟩ := all2_cons g1
  obtain ⟨_, _, rfl, ⟨c, rfl, hc⟩, g3⟩ := all2_cons g2
  obtain ⟨_, _, rfl, ⟨d, rfl, hd⟩, g4⟩ := all2_cons g3
  obtain rfl := all2_nil g4
  exact ⟨a, b, c, d, rfl, ha, hb, hc, hd⟩
theorem all2_tree {cs : List Value} (h : All2 enc P w base spare held [.bool, .bool, .bool] cs) :
    ∃ a b c : Bool, cs = [.bool a, .bool b, .bool c] := by
  obtain ⟨_, _, rfl, ⟨a, rfl⟩, g1⟩ := all2_cons h
  obtain ⟨_, _, rfl, ⟨b, rfl⟩, g2⟩ := all2_cons g1
  obtain ⟨_, _, rfl, ⟨c, rfl⟩, g3⟩ := all2_cons g2
  obtain rfl := all2_nil g3
  exact ⟨a, b, c, rfl⟩
theorem all2_line {cs : List Value} (h : All2 enc P w base spare held [.int .u64, .int .u64, .int .u64, .int .u64] cs) :
    ∃ a b c d : Int, cs = [.int .u64 a, .int .u64 b, .int .u64 c, .int .u64 d] ∧ (Lit.int .u64 a).wf = true ∧ (Lit.int .u64 b).wf = true ∧ (Lit.int .u64 c).wf = true ∧ (Lit.int .u64 d).wf = true := by
  obtain ⟨_, _, rfl, ⟨a, rfl, ha⟩, g1⟩ := all2_cons h
  obtain ⟨_, _, rfl, ⟨b, rfl, hb⟩, g2⟩ := all2_cons g1
  obtain ⟨_, _, rfl, ⟨c, rfl, hc⟩, g3⟩ := all2_cons g2
  obtain ⟨_, _, rfl, ⟨d, rfl, hd⟩, g4⟩ := all2_cons g3
  obtain rfl := all2_nil g4
  exact ⟨a, b, c, d, rfl, ha, hb, hc, hd⟩
theorem all2_deed {cs : List Value} (h : All2 enc P w base spare held [.int .i64, .int .i64, .int .i64, .int .u64] cs) :
    ∃ a b c d : Int, cs = [.int .i64 a, .int .i64 b, .int .i64 c, .int .u64 d] ∧ (Lit.int .i64 a).wf = true ∧ (Lit.int .i64 b).wf = true ∧ (Lit.int .i64 c).wf = true ∧ (Lit.int .u64 d).wf = true := by
  obtain ⟨_, _, rfl, ⟨a, rfl, ha⟩, g1⟩ := all2_cons h
  obtain ⟨_, _, rfl, ⟨b, rfl, hb⟩, g2⟩ := all2_cons g1
  obtain ⟨_, _, rfl, ⟨c, rfl, hc⟩, g3⟩ := all2_cons g2
  obtain ⟨_, _, rfl, ⟨d, rfl, hd⟩, g4⟩ := all2_cons g3
  obtain rfl := all2_nil g4
  exact ⟨a, b, c, d, rfl, ha, hb, hc, hd⟩

/-- A struct or array that came in, its cells. -/
theorem open_flat {n : Nat} {r : Reach} {b0 : Nat} {t : TypeId} {v : Value} {d : DataW H} {p : List MemPlace} (ks : List CK) (hk : flat P n t = some ks) (hl : ks.length = P.cellsOf t)
    (hs : (∃ fs, P.underlying t = some (.struct fs)) ∨ ∃ m e, P.underlying t = some (.array m e))
    (hv : Value.okWide P w r b0 t v) (h : DataW.Trod enc P w base spare held t v d p) : ∃ cs : List Value, v = .agg cs.toArray ∧ All2 enc P w base spare held ks cs := by
  have h1 : ∃ cs, v = .agg cs := by
    rcases hs with ⟨fs, hs⟩ | ⟨m, e, hs⟩ <;>
    · simp only [Value.okWide, hs] at hv
      obtain ⟨cs, h1, _⟩ := hv
      exact ⟨cs, h1⟩
  obtain ⟨cs, rfl⟩ := h1
  obtain ⟨fuel, hf⟩ := h
  exact ⟨cs.toList, by simp, flat_all hk (fun c hc => by rw [hc]; exact hl) hf⟩
end
end Go.Proofs.Ytffhfpdmfegcpac.flat
