/- The contract of ringdoveref.Road: a map of at most two entries. -/
import Derived.Test.YtffhfpdmfegcpaaKnob
import Derived.Test.YtffhfpdmfegcpaaBase2
import Derived.Maps.RangeWalk
import Derived.Maps.OwnOps
namespace Go.Proofs.Ytffhfpdmfegcpaa.road
open Go.ChangeShapes Go.WideShapes Go.ChangeAt Go.RowKit
open Go.Proofs.Ytffhfpdmfegcpaa.base
set_option linter.unusedVariables false
set_option linter.unusedSimpArgs false

def putL (D : DataW Unit) (L : List (Int × Bool)) : DataW Unit := L.foldl (fun D p => D.put (.int .i64 p.1) (.lit (.bool p.2))) D
def roadL (n k : Int) : List (Int × Bool) :=
  if n = 2 then [(0, decide (k = 1))] else if 2 < n then (if k < 2 then [(0, false), (1, decide (k = 1))] else if n = 4 then [(0, true), (2, decide (k = 3))] else [(0, true)]) else []
theorem law : Maps.Keyed Try.prog 3 := Maps.int_keyed Try.underlying3
noncomputable abbrev RB : Value → Option (DataW Unit × List MemPlace) := plainElem Try.prog 4

noncomputable def roadD (n k : Int) : DataW Unit := putL (.map []) (roadL n k)
/-- a map of the call's own comes back, that reads as D -/
def RetRoad (D : DataW Unit) (w : World) (e : Ending) (w' : World) : Prop :=
  ∃ g, e = .returned (.map (some g)) ∧ w'.ownsMap Try.prog 3 RB g 2 D ∧ w.heap.size ≤ g ∧ Below w.heap.size w w'

theorem key_ok {x : Int} (h0 : 0 ≤ x) (h9 : x ≤ 9) : keyOf Try.prog 3 (.int .i64 x) = some (.int .i64 x) :=
  Maps.keyOf_int_mk Try.underlying3 (WalkArith.wf_i64 (by omega))

set_option maxHeartbeats 4000000 in
set_option maxRecDepth 100000 in
theorem road_any (n k : Int) (w : World) (h : (n = 1 ∧ k = 0) ∨ (n = 2 ∧ k = 0) ∨ (n = 2 ∧ k = 1) ∨ (n = 3 ∧ k = 0) ∨ (n = 3 ∧ k = 1) ∨ (n = 3 ∧ k = 2) ∨ (n = 4 ∧ k = 0) ∨ (n = 4 ∧ k = 1) ∨ (n = 4 ∧ k = 2) ∨ (n = 4 ∧ k = 3)) :
    Calls Try.prog 58 #[.int .i64 n, .int .i64 k] w (RetRoad (roadD n k) w) := by
  have hmm := @run_makeMap Try.prog
  have k0 := key_ok (x := 0) (by omega) (by omega)
  have k1 := key_ok (x := 1) (by omega) (by omega)
  have k2 := key_ok (x := 2) (by omega) (by omega)
  have K0 := Lib.hid k0
  have K1 := Lib.hid k1
  have K2 := Lib.hid k2
  clear k0 k1 k2
  rcases h with ⟨rfl, rfl⟩ | ⟨rfl, rfl⟩ | ⟨rfl, rfl⟩ | ⟨rfl, rfl⟩ | ⟨rfl, rfl⟩ | ⟨rfl, rfl⟩ | ⟨rfl, rfl⟩ | ⟨rfl, rfl⟩ | ⟨rfl, rfl⟩ | ⟨rfl, rfl⟩
  all_goals
    go_enter Try.func58, Try.ntmps58
    go_wp2_with (first
      | (at_mapUpdate; refine wpList_mapUpdate_own _ rfl _ _ _ 92 rfl 3 4 law Try.underlying92 RB _ _ _ rfl hown1.out (by unfold maxLen; omega) _ _ _ rfl rfl (by first | exact K0.out | exact K1.out | exact K2.out) _ [] (plainElem_bool Try.underlying4 _) ?_; intro w2 hown2 hgrow2)
      | (at_mapUpdate; refine wpList_mapUpdate_own _ rfl _ _ _ 92 rfl 3 4 law Try.underlying92 RB _ _ _ rfl (World.ownsMap_made w _ _ _) (by unfold maxLen; omega) _ _ _ rfl rfl (by first | exact K0.out | exact K1.out | exact K2.out) _ [] (plainElem_bool Try.underlying4 _) ?_; intro w1 hown1' hgrow1'; have hown1 := Lib.hid hown1'; have hgrow1 := Lib.hid hgrow1'; clear hown1' hgrow1'))
    go_ret
    first
    | exact ⟨_, rfl, hown2, Nat.le_refl _, below_grown (below_grown (bs_alloc (Below.refl _ _) _) hgrow1.out (by intro g hg; injection hg with hg; omega)) hgrow2 (by intro g hg; injection hg with hg; omega)⟩
    | exact ⟨_, rfl, hown1.out.mono (by omega), Nat.le_refl _, below_grown (bs_alloc (Below.refl _ _) _) hgrow1.out (by intro g hg; injection hg with hg; omega)⟩
    | exact ⟨_, rfl, (World.ownsMap_made w _ _ _).mono (by omega), Nat.le_refl _, bs_alloc (Below.refl _ _) _⟩

/-! ### what the map holds -/
def getL : List (Int × Bool) → Int → Option Bool
  | [], _ => none
  | (y, b) :: L, x => if y = x then some b else getL L x

/-- the map D holds f, over the keys 0, 1 and 2 -/
def Holds (D : DataW Unit) (f : Int → Option Bool) : Prop :=
  (∀ x : Int, Maps.has D (.int .i64 x) = (f x).isSome) ∧ (∀ (x : Int) (zd : DataW Unit), D.atKey (.int .i64 x) zd = match f x with | some b => .lit (.bool b) | none => zd)
theorem holds_nil : Holds (.map []) (fun _ => none) := ⟨fun _ => rfl, fun _ _ => rfl⟩
theorem holds_put {D : DataW Unit} {f : Int → Option Bool} (h : Holds D f) (hD : Maps.IsMap D) {x : Int} (hx : WideAt.IsKeyLit (.int .i64 x)) (b : Bool) : Holds (D.put (.int .i64 x) (.lit (.bool b))) (fun y => if y = x then some b else f y) := by
  constructor
  · intro y
    by_cases e : y = x
    · subst e; rw [Maps.has_put_same hD hx]; simp
    · rw [Maps.has_put_other (fun h => e (by injection h))]; simp only [if_neg e]; exact h.1 y
  · intro y zd
    by_cases e : y = x
    · subst e; rw [Maps.atKey_put_same hD hx]; simp
    · rw [Maps.atKey_put_other (fun h => e (by injection h))]; simp only [if_neg e]; exact h.2 y zd
end Go.Proofs.Ytffhfpdmfegcpaa.road
