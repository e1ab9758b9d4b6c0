/- Equality of two values of a plain struct or array type: it is the equality of their cells. No function of the program is mentioned. -/
import Derived.Test.YtffhfpdmfegcpacFlat
import Derived.DeepKeys
namespace Go.Proofs.Ytffhfpdmfegcpac.same
open Go.ChangeShapes Go.WideShapes Go.ChangeAt Go.RowKit
open Go.Proofs.Ytffhfpdmfegcpac.flat
set_option linter.unusedVariables false
set_option linter.unusedSimpArgs false

def FitsW (k : CK) (v : Value) : Prop :=
  match k with
  | .int k => ∃ n, v = .int k n ∧ (Lit.int k n).wf = true
  | .bool => ∃ b, v = .bool b
  | .other _ => False

/-- the cells are of these kinds, and fit them -/
def AllW : List CK → List Value → Prop
  | [], [] => True
  | k :: ks, v :: vs => FitsW k v ∧ AllW ks vs
  | _, _ => False

def toLit : Value → Lit
  | .int k n => .int k n
  | .bool b => .bool b
  | _ => .bool false

noncomputable def eqv (xs ys : List Value) : Bool := @decide (xs = ys) (Classical.propDecidable _)
theorem eqv_true {xs ys : List Value} (h : xs = ys) : eqv xs ys = true := by unfold eqv; exact @decide_eq_true _ (Classical.propDecidable _) h
theorem eqv_false {xs ys : List Value} (h : ¬ xs = ys) : eqv xs ys = false := by unfold eqv; exact @decide_eq_false _ (Classical.propDecidable _) h
theorem eqv_iff {xs ys : List Value} : eqv xs ys = true ↔ xs = ys := by unfold eqv; exact @decide_eq_true_iff _ (Classical.propDecidable _)

theorem allW_length : ∀ {ks : List CK} {cs : List Value}, AllW ks cs → cs.length = ks.length
  | [], [], _ => rfl
  | k :: ks, v :: vs, h => by simp [allW_length h.2]
  | [], _ :: _, h => h.elim
  | _ :: _, [], h => h.elim

theorem allW_split : ∀ {a b : List CK} {cs : List Value}, AllW (a ++ b) cs → AllW a (cs.take a.length) ∧ AllW b (cs.drop a.length)
  | [], b, cs, h => by simpa [AllW] using h
  | k :: a, b, [], h => h.elim
  | k :: a, b, v :: vs, h => by
    obtain ⟨h1, h2⟩ := allW_split h.2
    simp only [List.length_cons, List.take_succ_cons, List.drop_succ_cons]
    exact ⟨⟨h.1, h1⟩, h2⟩

theorem toLit_inj : ∀ {ks : List CK} {xs ys : List Value}, AllW ks xs → AllW ks ys → xs.map toLit = ys.map toLit → xs = ys
  | [], [], [], _, _, _ => rfl
  | k :: ks, x :: xs, y :: ys, h1, h2, h => by
    simp only [List.map_cons, List.cons.injEq] at h
    rw [toLit_inj h1.2 h2.2 h.2]
    congr 1
    have e1 := h1.1
    have e2 := h2.1
    cases k with
    | int k => obtain ⟨n, rfl, _⟩ := e1; obtain ⟨m, rfl, _⟩ := e2; simpa [toLit] using h.1
    | bool => obtain ⟨n, rfl⟩ := e1; obtain ⟨m, rfl⟩ := e2; simpa [toLit] using h.1
    | other t => exact e1.elim
  | [], [], _ :: _, _, h, _ => h.elim
  | [], _ :: _, _, h, _, _ => h.elim
  | _ :: _, [], _, h, _, _ => h.elim
  | _ :: _, _ :: _, [], _, h, _ => h.elim

section
variable {P : Program}

theorem keyLits_flatL {F : TypeId → Option (List CK)} {m : Nat} (hF : ∀ t cs ks, F t = some ks → ks.length = P.cellsOf t → P.keyTypeAt m t = true → AllW ks cs → P.keyLits m t cs = some (cs.map toLit)) (cs : List Value) :
    ∀ (fs : List (Nat × TypeId)) (o : Nat) (ks : List CK), flatL P F o fs = some ks → (∀ f ∈ fs, P.keyTypeAt m f.2 = true) → AllW ks ((cs.drop o).take ks.length) →
      ∃ ls, fs.mapM (fun f => P.keyLits m f.2 ((cs.drop f.1).take (P.cellsOf f.2))) = some ls ∧ ls.flatten = ((cs.drop o).take ks.length).map toLit := by
  intro fs
  induction fs with
  | nil => intro o ks h _ _; simp [flatL] at h; subst h; exact ⟨[], by simp, by simp⟩
  | cons f fs ih =>
    intro o ks h hk hw
    simp only [flatL] at h
    split at h
    · rename_i ho
      obtain ⟨l, hl, h⟩ := Option.bind_eq_some_iff.1 h
      split at h
      · rename_i hlen
        obtain ⟨r, hr, rfl⟩ := Option.map_eq_some_iff.1 h
        obtain ⟨a1, a2⟩ := allW_split hw
        have hlw := allW_length hw
        rw [List.length_append] at hlw
        simp only [List.length_append, List.take_take, List.drop_take, List.drop_drop] at a1 a2
        rw [Nat.min_eq_left (by omega)] at a1
        rw [show l.length + r.length - l.length = r.length by omega] at a2
        obtain ⟨ls, h1, h2⟩ := ih _ _ hr (fun g hg => hk g (by simp [hg])) a2
        have h3 := hF _ _ _ hl hlen (hk f (by simp)) a1
        rw [← ho, hlen] at h3
        refine ⟨_ :: ls, by rw [List.mapM_cons, h3, h1]; rfl, ?_⟩
        rw [List.flatten_cons, h2, List.length_append, List.take_add, List.map_append, List.drop_drop, ← hlen, ho]
      · cases h
    · cases h

theorem keyLits_flat {n : Nat} : ∀ (t : TypeId) (cs : List Value) (ks : List CK), flat P n t = some ks → ks.length = P.cellsOf t → P.keyTypeAt n t = true → AllW ks cs → P.keyLits n t cs = some (cs.map toLit) := by
  induction n with
  | zero => intro t cs ks h; simp [flat] at h
  | succ n ih =>
    intro t cs ks h hl hk hw
    simp only [flat] at h
    unfold Program.keyTypeAt at hk
    unfold Program.keyLits
    have hlen := allW_length hw
    split at h
    · rename_i hu
      cases h
      match cs, hw with
      | [v], ⟨⟨b, hb⟩, _⟩ => subst hb; rw [hu]; rfl
    · rename_i k hu
      cases h
      match cs, hw with
      | [v], ⟨⟨b, hb, hb2⟩, _⟩ => subst hb; rw [hu]; simp [hb2, toLit]
    · rename_i fs hu
      simp only [hu] at hk ⊢
      simp only [Bool.and_eq_true, Array.all_eq_true] at hk
      obtain ⟨ls, h1, h2⟩ := keyLits_flatL (fun t cs ks h1 h2 h3 h4 => ih t cs ks h1 h2 h3 h4) cs _ _ _ h (fun f hf => by
        obtain ⟨g, hg1, rfl⟩ := List.mem_map.1 hf
        obtain ⟨i, hi, hi2⟩ := List.getElem_of_mem hg1
        have := (hk.1.1 i (by simpa using hi)).2
        simp only [Array.getElem_toList] at hi2
        rw [hi2] at this
        exact this) (by rw [List.drop_zero, List.take_of_length_le (by omega)]; exact hw)
      rw [List.mapM_map] at h1
      rw [List.drop_zero, List.take_of_length_le (by omega)] at h2
      have hn : fs.all (fun f => f.name != "_") = true := by
        rw [Array.all_eq_true]
        intro i hi
        exact (hk.1.1 i hi).1
      rw [if_pos ⟨by omega, hn⟩]
      have h1' : fs.toList.mapM (fun f => P.keyLits n f.type ((cs.drop f.offset).take (P.cellsOf f.type))) = some ls := h1
      rw [h1', Option.map_some, h2]
    · rename_i k e hu
      simp only [hu] at hk ⊢
      obtain ⟨ls, h1, h2⟩ := keyLits_flatL (fun t cs ks h1 h2 h3 h4 => ih t cs ks h1 h2 h3 h4) cs _ _ _ h (fun f hf => by
        obtain ⟨i, hi, rfl⟩ := List.mem_map.1 hf
        exact hk) (by rw [List.drop_zero, List.take_of_length_le (by omega)]; exact hw)
      rw [List.mapM_map] at h1
      rw [List.drop_zero, List.take_of_length_le (by omega)] at h2
      rw [if_pos (by omega)]
      have h1' : (List.range k).mapM (fun i => P.keyLits n e ((cs.drop (i * P.cellsOf e)).take (P.cellsOf e))) = some ls := h1
      rw [h1', Option.map_some, h2]
    · cases h
      match cs, hw with
      | [v], h => exact h.1.elim
    · cases h
      match cs, hw with
      | [v], h => exact h.1.elim
    · cases h

theorem run_equalIn_flat (w : World) (n : Nat) (t : TypeId) (ks : List CK) (hk : flat P n t = some ks) (hl : ks.length = P.cellsOf t) (hkt : P.keyTypeAt n t = true) (hn : n ≤ 10000)
    (hs : (∃ fs, P.underlying t = some (.struct fs)) ∨ ∃ m e, P.underlying t = some (.array m e)) (xs ys : List Value) (hx : AllW ks xs) (hy : AllW ks ys) :
    (Op.equalIn 10000 t (.agg xs.toArray) (.agg ys.toArray)).run P w = .ok (eqv xs ys) w := by
  have hform : ∀ zs : List Value, AllW ks zs → (Value.agg zs.toArray).formed P t = true := fun zs hz => by
    have := allW_length hz
    rcases hs with ⟨fs, hs⟩ | ⟨m, e, hs⟩ <;> simp [Value.formed, hs] <;> omega
  obtain ⟨r, h1, h2⟩ := run_equalIn_deep (P := P) (10000 - n) n t hkt w n n (.agg xs.toArray) (.agg ys.toArray) _ _ (hform _ hx) (hform _ hy)
    (by simpa [Value.cells] using keyLits_flat t xs ks hk hl hkt hx) (by simpa [Value.cells] using keyLits_flat t ys ks hk hl hkt hy)
  rw [show 10000 - n + n = 10000 by omega] at h1
  rw [h1]
  congr 1
  rw [Bool.eq_iff_iff, h2, eqv_iff]
  exact ⟨fun h => toLit_inj hx hy h, fun h => by rw [h]⟩
end
end Go.Proofs.Ytffhfpdmfegcpac.same
