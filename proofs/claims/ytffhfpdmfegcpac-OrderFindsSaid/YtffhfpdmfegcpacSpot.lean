/- The spots of the search for an order, as keys of a map: a map of spots from which there is no order. -/
import Derived.Test.YtffhfpdmfegcpacTurn
import Derived.Test.YtffhfpdmfegcpacFindLaw
import Derived.Test.YtffhfpdmfegcpacMemEq
import Derived.DeepKeys4
import Derived.Maps.Own
import Derived.Maps.OwnOps
namespace Go.Proofs.Ytffhfpdmfegcpac.find
open Go.ChangeShapes Go.WideShapes Go.ChangeAt Go.RowKit
open Go.Maps (Keyed)
open Go.WideElems (rg)
open Go.Proofs.Ytffhfpdmfegcpac.base Go.Proofs.Ytffhfpdmfegcpac.flat Go.Proofs.Ytffhfpdmfegcpac.same Go.Proofs.Ytffhfpdmfegcpac.table Go.Proofs.Ytffhfpdmfegcpac.bank Go.Proofs.Ytffhfpdmfegcpac.atomic Go.Proofs.Ytffhfpdmfegcpac.memEq Go.Proofs.Ytffhfpdmfegcpac.play Go.Proofs.Ytffhfpdmfegcpac.told Go.Proofs.Ytffhfpdmfegcpac.turn
set_option linter.unusedVariables false
set_option linter.unusedSimpArgs false

/-- a spot's cells: eight places, and memory -/
def atL (at_ : List Nat) : List Value := at_.map fun i : Nat => Value.int .i64 (i : Int)
def spotA (at_ : List Nat) (m : List Int) : Array Value := (atL at_ ++ m.map (Value.int .u64)).toArray
theorem spotA_size {at_ : List Nat} {m : List Int} (ha : at_.length = 8) (hm : m.length = 64) : (spotA at_ m).size = 72 := by simp [spotA, atL, ha, hm]
theorem spotA_one (at_ : List Nat) (m : List Int) : (spotA at_ m).all (·.oneCell') = true := by
  rw [Array.all_eq_true_iff_forall_mem]
  intro v hv
  simp only [spotA, atL, List.mem_toArray, List.mem_append, List.mem_map] at hv
  rcases hv with ⟨x, _, rfl⟩ | ⟨x, _, rfl⟩ <;> rfl
theorem spotA_at {at_ : List Nat} {m : List Int} {k i : Nat} (h : at_[k]? = some i) : (spotA at_ m)[k]? = some (.int .i64 i) := by
  have hk : k < at_.length := (List.getElem?_eq_some_iff.1 h).1
  simp only [spotA, atL, List.getElem?_toArray]
  rw [List.getElem?_append_left (by simpa using hk), List.getElem?_map, h]
  rfl
theorem spotA_mem {at_ : List Nat} {m : List Int} (ha : at_.length = 8) (hm : m.length = 64) : (spotA at_ m).extract 8 (8 + 64) = memA m := by
  apply Array.ext'
  simp only [spotA, atL, memA, Array.toList_extract, List.extract]
  rw [List.drop_append_of_le_length (by simp [ha]), List.drop_of_length_le (by simp [ha])]
  simp [List.take_of_length_le, hm]
theorem spotA_splice {at_ : List Nat} {m m' : List Int} (ha : at_.length = 8) (hm : m.length = 64) (hm' : m'.length = 64) : splice (spotA at_ m) 8 (memA m') = spotA at_ m' := by
  apply Array.ext'
  simp only [splice, spotA, atL, memA, Array.toList_append, Array.toList_extract, List.extract]
  simp only [List.size_toArray, List.length_append, List.length_map, ha, hm, hm', Nat.sub_zero, List.drop_zero]
  rw [List.take_append_of_le_length (by simp [ha]), List.take_of_length_le (by simp [ha])]
  simp
theorem spotA_set {at_ : List Nat} {m : List Int} {k i : Nat} (hk : k < at_.length) : (spotA at_ m).setIfInBounds k (.int .i64 (i : Int)) = spotA (at_.set k i) m := by
  apply Array.ext'
  simp only [spotA, atL, Array.toList_setIfInBounds]
  rw [List.set_append_left _ _ (by simpa using hk), List.map_set]
/-- the places and the memory are of Go's types -/
def SpotOk (at_ : List Nat) (m : List Int) : Prop := at_.length = 8 ∧ m.length = 64 ∧ (∀ i ∈ at_, i ≤ 1000) ∧ AllU m
theorem allW_at {at_ : List Nat} (h : ∀ i ∈ at_, i ≤ 1000) : AllW (List.replicate at_.length (.int .i64)) (atL at_) := by
  induction at_ with
  | nil => trivial
  | cons x xs ih => exact ⟨⟨x, rfl, WalkArith.wf_i64 (by have := h x (by simp); omega)⟩, ih (fun y hy => h y (by simp [hy]))⟩
theorem allW_app {a b : List CK} : ∀ {x y : List Value}, AllW a x → AllW b y → AllW (a ++ b) (x ++ y) := by
  induction a with
  | nil => intro x y h k; cases x with
    | nil => exact k
    | cons _ _ => exact h.elim
  | cons c a ih => intro x y h k; cases x with
    | nil => exact h.elim
    | cons v x => exact ⟨h.1, ih h.2 k⟩
theorem allW_spot {at_ : List Nat} {m : List Int} (h : SpotOk at_ m) : AllW (List.replicate 8 (.int .i64) ++ List.replicate 64 (.int .u64)) (atL at_ ++ m.map (Value.int .u64)) := by
  have h1 := allW_at h.2.2.1
  have h2 := allW_mem h.2.2.2
  rw [h.1] at h1
  rw [h.2.1] at h2
  exact allW_app h1 h2

theorem laidOut : laidOutB Try.prog = true := by kernel_rfl
theorem spotLaw : WideMaps.KeyLaw Try.prog 105 := deep_law_laid laidOut (m := 4) (by omega) (of_decide_eq_true (by kernel_rfl)) (by kernel_rfl) (by rw [Try.underlying105])
theorem spotKeyed : Keyed Try.prog 105 := Keyed.of_law spotLaw
/-- how a spot reads as a key -/
theorem keyOf_spot {at_ : List Nat} {m : List Int} (h : SpotOk at_ m) : ∃ s, keyOf Try.prog 105 (.agg (spotA at_ m)) = some (.string s) := by
  have hk : Try.prog.keyType 105 = true := by kernel_rfl
  have hw := allW_spot h
  have hf : (Value.agg (spotA at_ m)).formed Try.prog 105 = true := by
    have hs := spotA_size h.1 h.2.1
    have hc : Try.prog.cellsOf 105 = 72 := by kernel_rfl
    simp [Value.formed, Try.underlying105, hs, hc]
  have hl := keyLits_flat (P := Try.prog) (n := Try.prog.types.size + 1) 105 (atL at_ ++ m.map (Value.int .u64)) _ (by kernel_rfl : flat Try.prog (Try.prog.types.size + 1) 105 = some (List.replicate 8 (.int .i64) ++ List.replicate 64 (.int .u64))) (by kernel_rfl) hk hw
  unfold keyOf
  rw [Try.underlying105]
  simp only [hk, hf, Bool.and_true, if_true]
  have hcells : (Value.agg (spotA at_ m)).cells.toList = atL at_ ++ m.map (Value.int .u64) := rfl
  rw [hcells, hl]
  exact ⟨_, rfl⟩
theorem atL_inj : ∀ {a b : List Nat}, atL a = atL b → a = b
  | [], [], _ => rfl
  | [], _ :: _, h => by simp [atL] at h
  | _ :: _, [], h => by simp [atL] at h
  | x :: a, y :: b, h => by
    simp only [atL, List.map_cons, List.cons.injEq, Value.int.injEq, true_and] at h
    rw [atL_inj (a := a) (b := b) h.2]
    congr 1
    omega
theorem mem_inj : ∀ {a b : List Int}, a.map (Value.int .u64) = b.map (Value.int .u64) → a = b
  | [], [], _ => rfl
  | [], _ :: _, h => by simp at h
  | _ :: _, [], h => by simp at h
  | x :: a, y :: b, h => by
    simp only [List.map_cons, List.cons.injEq, Value.int.injEq, true_and] at h
    rw [mem_inj (a := a) (b := b) h.2, h.1]
theorem spot_inj {a b : List Nat} {m n : List Int} (ha : a.length = 8) (hb : b.length = 8) (h : Value.agg (spotA a m) = .agg (spotA b n)) : a = b ∧ m = n := by
  injection h with h
  have h2 : atL a ++ m.map (Value.int .u64) = atL b ++ n.map (Value.int .u64) := by simpa [spotA] using congrArg Array.toList h
  obtain ⟨h3, h4⟩ := List.append_inj h2 (by simp [atL, ha, hb])
  exact ⟨atL_inj h3, mem_inj h4⟩

noncomputable abbrev R1 : Value → Option (DataW Unit × List MemPlace) := plainElem Try.prog 4
noncomputable def readsAs (es : Array MapEntry) : DataW Unit := .map ((es.toList.map (rg Try.prog 105 R1)).foldr DataW.insert [])
/-- each spot that the map tells is one from which there is no order -/
def Dead (logs : List (List T5)) (n : Nat) (o : Obj) : Prop := ∃ es ck, o = .map es ck ∧ WideElems.Fit Try.prog 105 R1 es ck ∧ es.size ≤ n ∧
  ∀ (a : List Nat) (m : List Int) (kl : Lit), SpotOk a m → keyOf Try.prog 105 (.agg (spotA a m)) = some kl → (readsAs es).atKey kl (.lit (.bool false)) = .lit (.bool true) → search logs (leftL logs a) a m = none
theorem Dead.mono {logs : List (List T5)} {n n' : Nat} {o : Obj} (h : Dead logs n o) (hn : n ≤ n') : Dead logs n' o := by
  obtain ⟨es, ck, h1, h2, h3, h4⟩ := h
  exact ⟨es, ck, h1, h2, Nat.le_trans h3 hn, h4⟩
theorem Dead.isMap {logs : List (List T5)} {n : Nat} {o : Obj} (h : Dead logs n o) : ∃ es ck, o = .map es ck := by
  obtain ⟨es, ck, h1, _⟩ := h
  exact ⟨es, ck, h1⟩
theorem dead_new (logs : List (List T5)) : Dead logs 0 (.map #[] 0) :=
  ⟨#[], 0, rfl, ⟨by simp, MapKept.stamped_empty 0, by simp⟩, Nat.le_refl _, fun a m kl _ _ h => by cases h⟩
theorem zeroB (w : World) : (zeroValue 4).run Try.prog w = .ok (.bool false) w := by kernel_rfl
set_option maxRecDepth 100000 in
theorem R1_inv {v : Value} {z : DataW Unit × List MemPlace} (h : R1 v = some z) : ∃ x, v = .bool x ∧ z = (.lit (.bool x), []) := by
  unfold R1 plainElem at h
  rw [Try.underlying4] at h
  cases v <;> simp at h
  exact ⟨_, rfl, h.symm⟩
theorem R1_mk (x : Bool) : R1 (.bool x) = some (.lit (.bool x), []) := plainElem_bool Try.underlying4 x
/-- the map is read -/
theorem dead_look {logs : List (List T5)} {n b : Nat} {o : Obj} {w : World} {a : List Nat} {m : List Int} (h : Dead logs n o) (hb : w.heap[b]? = some o) (hs : SpotOk a m) :
    ∃ c, (Instr.lookup 98 (.map (some b)) (.agg (spotA a m)) false).run Try.prog w = .ok (.bool c) w ∧ (c = true → search logs (leftL logs a) a m = none) := by
  obtain ⟨es, ck, rfl, F, _, hall⟩ := h
  obtain ⟨s, hkey⟩ := keyOf_spot hs
  rcases Maps.fit_look false spotKeyed Try.underlying98 (zeroB w) hb F hkey with ⟨hrun, _, hat⟩ | ⟨e0, y, _, _, hrun, hRv, hat, _⟩
  · exact ⟨false, hrun, fun h => by cases h⟩
  · obtain ⟨x, hx, rfl⟩ := R1_inv hRv
    rw [hx] at hrun
    exact ⟨x, hrun, fun h => by
      subst h
      exact hall a m _ hs hkey (hat _)⟩
/-- a spot is told dead -/
theorem dead_put {logs : List (List T5)} {n b : Nat} {o : Obj} {w : World} {a : List Nat} {m : List Int} (h : Dead logs n o) (hb : w.heap[b]? = some o) (hn : n < maxLen) (hs : SpotOk a m) (hno : search logs (leftL logs a) a m = none) :
    ∃ o', (Instr.mapUpdate 98 (.map (some b)) (.agg (spotA a m)) (.bool true)).run Try.prog w = .ok () (w.turn b o') ∧ Dead logs (n + 1) o' := by
  obtain ⟨es, ck, rfl, F, hsz, hall⟩ := h
  obtain ⟨s, hkey⟩ := keyOf_spot hs
  obtain ⟨es', ck', hrun, F', hput, _⟩ := Maps.fit_store (R' := R1) spotKeyed Try.underlying98 hb F (Nat.lt_of_le_of_lt hsz hn) (fun _ _ _ _ hz => hz) hkey (R1_mk true)
  have hD : readsAs es' = (readsAs es).put (.string s) (.lit (.bool true)) := by
    unfold readsAs
    rw [DataW.put_eq, hput]
  refine ⟨.map es' ck', hrun, es', ck', rfl, F', ?_, fun a' m' kl hs' hk' hat => ?_⟩
  · have e1 : es'.size = ((es'.toList.map (rg Try.prog 105 R1)).foldr DataW.insert []).length := by rw [length_sorted]; simp
    rw [e1, hput]
    unfold ChangeMaps.putKey
    rw [length_insert]
    have e2 := List.length_filter_le (ChangeMaps.notKey (.string s)) ((es.toList.map (rg Try.prog 105 R1)).foldr DataW.insert [])
    rw [length_sorted] at e2
    simp at e2
    omega
  · by_cases hkl : kl = .string s
    · subst hkl
      obtain ⟨rfl, rfl⟩ := spot_inj hs.1 hs'.1 (spotLaw.inj hkey hk')
      exact hno
    · rw [hD, Maps.atKey_put_other hkl] at hat
      exact hall a' m' kl hs' hk' hat

/-- at the operation, for the walk -/
theorem wpList_look_dead {logs : List (List T5)} {n b : Nat} {ob : Obj} {w : World} {a' : List Nat} {m : List Int} {ops : Array Oper} {rest : List Oper} {op : Oper} {a : Act} {Q : Exit → Act → World → Prop}
    (hg : op.guard = none) (x y : Operand) (hop : op.op = .lookup 98 x y false) (hx : a.eval x = .map (some b)) (hy : a.eval y = .agg (spotA a' m))
    (h : Dead logs n ob) (hb : w.heap[b]? = some ob) (hs : SpotOk a' m) (hK : ∀ c, (c = true → search logs (leftL logs a') a' m = none) → wpList Try.prog ops Q rest (a.put op.dst (.bool c)) w) : wpList Try.prog ops Q (op :: rest) a w := by
  refine wpList_plain hg fun K' hK' => ?_
  obtain ⟨c, hrun, hc⟩ := dead_look h hb hs
  unfold Oper.wp
  simp [execOp, hop, hx, hy, hrun, Result.andThen]
  exact hK' _ _ (hK c hc)
theorem wpList_put_dead {logs : List (List T5)} {n b : Nat} {ob : Obj} {w : World} {a' : List Nat} {m : List Int} {ops : Array Oper} {rest : List Oper} {op : Oper} {a : Act} {Q : Exit → Act → World → Prop}
    (hg : op.guard = none) (x y z : Operand) (hop : op.op = .mapUpdate 98 x y z) (hx : a.eval x = .map (some b)) (hy : a.eval y = .agg (spotA a' m)) (hz : a.eval z = .bool true)
    (h : Dead logs n ob) (hb : w.heap[b]? = some ob) (hn : n < maxLen) (hs : SpotOk a' m) (hno : search logs (leftL logs a') a' m = none) (hK : ∀ o', Dead logs (n + 1) o' → wpList Try.prog ops Q rest (a.put op.dst undef) (w.turn b o')) : wpList Try.prog ops Q (op :: rest) a w := by
  refine wpList_plain hg fun K' hK' => ?_
  obtain ⟨o', hrun, hd⟩ := dead_put h hb hn hs hno
  unfold Oper.wp
  simp [execOp, hop, hx, hy, hz, hrun, Result.andThen]
  exact hK' _ _ (hK o' hd)
end Go.Proofs.Ytffhfpdmfegcpac.find
