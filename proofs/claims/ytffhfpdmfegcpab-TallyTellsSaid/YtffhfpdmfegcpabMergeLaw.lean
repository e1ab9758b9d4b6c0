/- What prog.Merge computes, as a law of lists. -/
import Derived.Test.YtffhfpdmfegcpabProgNext
import Derived.Test.YtffhfpdmfegcpabDeedRow
namespace Go.Proofs.Ytffhfpdmfegcpab.prog
open Go.ChangeShapes Go.WideShapes Go.ChangeAt Go.RowKit
open Go.Proofs.Ytffhfpdmfegcpab.base Go.Proofs.Ytffhfpdmfegcpab.flat Go.Proofs.Ytffhfpdmfegcpab.table Go.Proofs.Ytffhfpdmfegcpab.addr Go.Proofs.Ytffhfpdmfegcpab.atomic
set_option linter.unusedVariables false
set_option linter.unusedSimpArgs false

/-- how far each program is, and the deeds that were taken -/
structure St where
  at_ : List Nat
  out : List D4
/-- the deed that a pick takes -/
def pickD (ps : List (List D4)) (s : St) (k : Int) : Option D4 :=
  if k < 0 then none else (ps[k.toNat]?).bind fun P => (s.at_[k.toNat]?).bind fun t => P[t]?
def St.step (ps : List (List D4)) (s : St) (k : Int) : St :=
  match pickD ps s k with
  | some y => ⟨s.at_.set k.toNat ((s.at_[k.toNat]?).getD 0 + 1), s.out ++ [y]⟩
  | none => s
def mergeS (ps : List (List D4)) (picks : List Int) : St := picks.foldl (St.step ps) ⟨List.replicate ps.length 0, []⟩
theorem mergeS_snoc (ps : List (List D4)) {picks : List Int} {j : Nat} {k : Int} (h : picks[j]? = some k) : mergeS ps (picks.take (j + 1)) = (mergeS ps (picks.take j)).step ps k := by
  unfold mergeS
  rw [List.take_add_one, h, List.foldl_append]
  rfl
/-- what holds of each state -/
structure StOK (ps : List (List D4)) (n : Nat) (s : St) : Prop where
  len : s.at_.length = ps.length
  le : ∀ (k : Nat) (P : List D4) (t : Nat), ps[k]? = some P → s.at_[k]? = some t → t ≤ P.length
  out : s.out.length ≤ n
theorem step_ok {ps : List (List D4)} {n : Nat} {s : St} (h : StOK ps n s) (k : Int) : StOK ps (n + 1) (s.step ps k) := by
  unfold St.step
  cases hp : pickD ps s k with
  | none => exact ⟨h.len, h.le, Nat.le_succ_of_le h.out⟩
  | some y =>
    unfold pickD at hp
    split at hp
    · cases hp
    · obtain ⟨P, hP, hp⟩ := Option.bind_eq_some_iff.1 hp
      obtain ⟨t, ht, hy⟩ := Option.bind_eq_some_iff.1 hp
      refine ⟨by show (s.at_.set _ _).length = _; rw [List.length_set, h.len], ?_, by show (s.out ++ [y]).length ≤ _; rw [List.length_append]; have := h.out; simp; omega⟩
      intro k' P' t' hP' ht'
      have ht' : (s.at_.set k.toNat ((s.at_[k.toNat]?).getD 0 + 1))[k']? = some t' := ht'
      by_cases hk : k.toNat = k'
      · subst hk
        rw [List.getElem?_set_self (List.getElem?_eq_some_iff.1 ht).1, ht] at ht'
        have e1 : t + 1 = t' := by simpa using ht'
        rw [hP] at hP'
        obtain rfl := Option.some.inj hP'
        have := (List.getElem?_eq_some_iff.1 hy).1
        omega
      · rw [List.getElem?_set_ne hk] at ht'
        exact h.le k' P' t' hP' ht'
theorem mergeS_ok (ps : List (List D4)) (picks : List Int) : ∀ j, j ≤ picks.length → StOK ps j (mergeS ps (picks.take j))
  | 0, _ => by
    refine ⟨by simp [mergeS], ?_, by simp [mergeS]⟩
    intro k P t hP ht
    simp only [mergeS, List.take_zero, List.foldl_nil, List.getElem?_replicate] at ht
    split at ht
    · have : 0 = t := by simpa using ht
      omega
    · cases ht
  | j + 1, h => by
    obtain ⟨k, hk⟩ := get_some (xs := picks) (k := j) (by omega)
    rw [mergeS_snoc ps hk]
    exact step_ok (mergeS_ok ps picks j (by omega)) k
def natI (l : List Nat) : List Int := l.map fun t : Nat => (t : Int)
theorem natI_get {l : List Nat} {k t : Nat} (h : l[k]? = some t) : (natI l)[k]? = some (t : Int) := by simp [natI, h]
theorem natI_len (l : List Nat) : (natI l).length = l.length := by simp [natI]
theorem natI_set (l : List Nat) (k t : Nat) : ((natI l).map (Value.int .i64)).set k (.int .i64 (t : Int)) = (natI (l.set k t)).map (Value.int .i64) := by simp [natI, List.map_set]
theorem made_ints (n : Nat) : (madeCells #[.int .i64 0] n).toList = (natI (List.replicate n 0)).map (Value.int .i64) := by
  apply List.ext_getElem?
  intro j
  by_cases hj : j < n
  · simp [madeCells, natI, hj, Nat.mod_one]
  · simp [madeCells, natI, hj]
def mergeE (cn cs cy cb : Int) (ps : List (List D4)) (picks : List Int) : Int := if progsE cn cs cy cb ps = 0 then (if 200 < picks.length then 2 else 0) else progsE cn cs cy cb ps
end Go.Proofs.Ytffhfpdmfegcpab.prog
