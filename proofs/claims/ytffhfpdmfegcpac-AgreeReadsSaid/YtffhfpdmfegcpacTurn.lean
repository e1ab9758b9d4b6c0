/- A world in which one block holds another object: for a map that a recursion writes. A part of a row read and written. No function of the program is mentioned. -/
import Derived.Test.YtffhfpdmfegcpacMem
import Derived.Test.YtffhfpdmfegcpacLists
import Derived.Test.YtffhfpdmfegcpacRange
import Derived.Maps.Own
import Derived.Deep.MidRow
namespace Go.Proofs.Ytffhfpdmfegcpac.turn
open Go.ChangeShapes Go.WideShapes Go.ChangeAt Go.RowKit
open Go.Proofs.Ytffhfpdmfegcpac.base Go.Proofs.Ytffhfpdmfegcpac.table
set_option linter.unusedVariables false
set_option linter.unusedSimpArgs false

/-- block b holds o -/
def _root_.Go.World.turn (w : World) (b : Nat) (o : Obj) : World := { w with heap := w.heap.setIfInBounds b o }
section
variable {w : World} {b n : Nat}
@[simp, go_sem] theorem size_turn (o : Obj) : (w.turn b o).heap.size = w.heap.size := by simp [World.turn]
@[go_sem] theorem turn_turn (o o' : Obj) : (w.turn b o).turn b o' = w.turn b o' := by simp [World.turn]
@[go_sem] theorem turn_drew (o : Obj) : w.drew.turn b o = (w.turn b o).drew := rfl
@[go_sem] theorem turn_drewN (o : Obj) (k : Nat) : (w.drewN k).turn b o = (w.turn b o).drewN k := rfl
@[go_sem] theorem turn_alloc (x o : Obj) (h : inB w b) : (w.alloc x).turn b o = (w.turn b o).alloc x := by
  simp only [World.turn, World.alloc]
  congr 1
  apply Array.ext_getElem?
  intro i
  unfold inB at h
  simp only [Array.getElem?_setIfInBounds, Array.getElem?_push, Array.size_push, Array.size_setIfInBounds]
  by_cases hi : b = i
  · subst hi
    have h1 : b ≠ w.heap.size := by omega
    have h2 : b < w.heap.size + 1 := by omega
    simp [h, h1, h2]
  · simp [hi]
@[go_sem] theorem turn_later (l : Array Obj) (d : Nat) (o : Obj) (h : inB w b) : (w.later l d).turn b o = (w.turn b o).later l d := by
  simp only [World.turn, World.later]
  congr 1
  apply Array.ext_getElem?
  intro i
  unfold inB at h
  simp only [Array.getElem?_setIfInBounds, Array.getElem?_append, Array.size_append, Array.size_setIfInBounds]
  by_cases hi : b = i
  · subst hi; simp [h]; omega
  · simp [hi]
@[go_sem] theorem inB_turn (o : Obj) : inB (w.turn b o) n ↔ inB w n := by unfold inB; simp
theorem turn_self {o : Obj} (h : w.heap[b]? = some o) : w.turn b o = w := by
  have hh : w.heap.setIfInBounds b o = w.heap := by
    apply Array.ext_getElem?
    intro i
    rw [Array.getElem?_setIfInBounds]
    by_cases hi : b = i
    · subst hi
      have := (Array.getElem?_eq_some_iff.1 h).1
      rw [if_pos rfl, if_pos this, h]
    · rw [if_neg hi]
  simp only [World.turn, hh]
theorem heap_turn (h : inB w b) (o : Obj) : (w.turn b o).heap[b]? = some o := by
  unfold inB at h
  simp [World.turn, h]
theorem heap_turn_ne (o : Obj) (h : n ≠ b) : (w.turn b o).heap[n]? = w.heap[n]? := by
  simp [World.turn, Array.getElem?_setIfInBounds, Ne.symm h]
theorem cell_turn {i : Nat} (o : Obj) (h : n ≠ b) : (w.turn b o).cell? ⟨n, i, none⟩ = w.cell? ⟨n, i, none⟩ := World.cell?_of_block (heap_turn_ne o h)
/-- no cell lies in a map -/
theorem ne_of_map {es : Array MapEntry} {ck i : Nat} {v : Value} (hm : w.heap[b]? = some (.map es ck)) (hc : w.cell? ⟨n, i, none⟩ = some v) : n ≠ b := by
  rintro rfl
  simp [World.cell?, hm] at hc
end

/-- every cell is as it was -/
def Kept (w w' : World) : Prop := ∀ (b i : Nat) (v : Value), w.cell? ⟨b, i, none⟩ = some v → w'.cell? ⟨b, i, none⟩ = some v
theorem kept_turn {w : World} {b : Nat} {es : Array MapEntry} {ck : Nat} (hm : w.heap[b]? = some (.map es ck)) (o : Obj) : Kept w (w.turn b o) := fun n i v hc => by
  rw [cell_turn o (ne_of_map hm hc)]; exact hc
theorem RowsAt.kept {n : Nat} {w w' : World} {a : Option Addr} {rs : List (List Value)} (h : RowsAt n w a rs) (hk : Kept w w') : RowsAt n w' a rs := by
  rcases h with h | ⟨b, off, h1, h2⟩
  · exact .inl h
  · exact .inr ⟨b, off, h1, fun i r hr => ⟨(h2 i r hr).1, fun j v hv => hk _ _ _ ((h2 i r hr).2 j v hv)⟩⟩
theorem ListsAt.kept {α : Type} {Q : World → Option Addr → List α → Prop} {w w' : World} (hQ : ∀ {a l}, Q w a l → Q w' a l) (hk : Kept w w') {a : Option Addr} {ls : List (List α)} (h : ListsAt Q w a ls) : ListsAt Q w' a ls := by
  rcases h with h | ⟨b, off, h1, h2⟩
  · exact .inl h
  · refine .inr ⟨b, off, h1, fun i l hl => ?_⟩
    obtain ⟨p, c, h3, h4, h5, h6, h7⟩ := h2 i l hl
    exact ⟨p, c, hk _ _ _ h3, h4, h5, h6, hQ h7⟩

/-- a part of a row is loaded -/
theorem run_load_sub {P : Program} (w : World) (n o k K : Nat) (ty : TypeId) (d : TypeDesc) (hu : P.underlying ty = some d) (hd : d.isRow = true) (hi : (P.info? ty).map (·.size) = some k) (h : okRow w n K) (hk : o + k ≤ K) :
    (loadVar ty ⟨n, o, none⟩).run P w = .ok (.agg ((rowOf w n).extract o (o + k))) w := by
  obtain ⟨c, t, h1, h2⟩ := h
  have e : rowOf w n = c := by unfold rowOf; rw [h1]
  rw [e]
  have := run_loadVar_mid (P := P) w n o ty (c.extract o (o + k)).toList d (World.rangeAt_of_block h1 o k) hu hd (by rw [hi]; simp; omega)
  rwa [Array.toArray_toList] at this
theorem wpList_load_sub {P : Program} {ops : Array Oper} {rest : List Oper} {op : Oper} {a : Act} {w : World} {Q : Exit → Act → World → Prop} (hgd : op.guard = none) (ty : TypeId) (x : Operand) (ho : op.op = .load ty x)
    (n o : Nat) (hx : a.eval x = .pointer (some ⟨n, o, none⟩)) (k K : Nat) (d : TypeDesc) (hu : P.underlying ty = some d) (hd : d.isRow = true) (hi : (P.info? ty).map (·.size) = some k)
    (h : okRow w n K) (hk : o + k ≤ K) (hK : ∀ C, (rowOf w n).extract o (o + k) = C → wpList P ops Q rest (a.put op.dst (.agg C)) w) : wpList P ops Q (op :: rest) a w :=
  wpList_plain hgd fun _ hK' => by
    unfold Oper.wp execOp
    simp only [ho, hx, Instr.loadAt, Instr.sureAddr, Sem.run_bind, Sem.run_pure, Result.andThen_ok, run_load_sub w n o k K ty d hu hd hi h hk]
    exact hK' _ _ (hK _ rfl)

theorem set_snoc {α : Type} (l : List α) (x v : α) {o : Nat} (h : l.length = o) : (l ++ [x]).set o v = l ++ [v] := by
  subst h
  induction l with
  | nil => rfl
  | cons y l ih => simp [ih]
/-- c in the place of the cells from o on -/
def splice (C : Array Value) (o : Nat) (c : Array Value) : Array Value := C.extract 0 o ++ c ++ C.extract (o + c.size) C.size
theorem cells_setCells (n : Nat) (t : TypeId) : ∀ (vs : List Value) (o : Nat) (w : World) (C : Array Value), w.heap[n]? = some (.cells C t (0, 0)) → o + vs.length ≤ C.size →
    w.setCells n o vs = w.putRow n (C.extract 0 o ++ vs.toArray ++ C.extract (o + vs.length) C.size)
  | [], o, w, C, h, hl => by
    have e : C.extract 0 o ++ (#[] : Array Value) ++ C.extract (o + 0) C.size = C := by
      simp only [Array.append_empty, Nat.add_zero]
      apply Array.ext'
      simp only [Array.toList_append, Array.toList_extract, List.extract, List.drop_zero, Nat.sub_zero]
      have hl' : o ≤ C.toList.length := by simpa using hl
      rw [show C.size - o = (C.toList.drop o).length by simp, List.take_length, List.take_append_drop]
    show w = w.putRow n (C.extract 0 o ++ (#[] : Array Value) ++ C.extract (o + 0) C.size)
    rw [e]
    have hh : (w.heap.modify n fun | .cells _ t fr => .cells C t fr | o => o) = w.heap := by
      apply Array.ext_getElem?
      intro i
      rw [Array.getElem?_modify]
      by_cases hi : n = i
      · subst hi; simp [h]
      · simp [hi]
    exact congrArg (fun h => ({ w with heap := h } : World)) hh.symm
  | v :: vs, o, w, C, h, hl => by
    simp only [List.length_cons] at hl
    rw [World.setCells]
    have h1 : (w.setCell ⟨n, o, none⟩ v) = w.putRow n (C.setIfInBounds o v) := by
      simp only [World.setCell, World.putRow]
      congr 1
      apply Array.ext_getElem?
      intro i
      rw [Array.getElem?_modify, Array.getElem?_modify]
      by_cases hi : n = i
      · subst hi; simp [h]
      · simp [hi]
    have h2 : (w.putRow n (C.setIfInBounds o v)).heap[n]? = some (.cells (C.setIfInBounds o v) t (0, 0)) := by
      simp only [World.putRow, Array.getElem?_modify, if_true, h, Option.map_some]
    rw [h1, cells_setCells n t vs (o + 1) _ (C.setIfInBounds o v) h2 (by simp; omega)]
    have h3 : ∀ c c' : Array Value, (w.putRow n c).putRow n c' = w.putRow n c' := fun c c' => by
      simp only [World.putRow]
      congr 1
      apply Array.ext_getElem?
      intro i
      rw [Array.getElem?_modify, Array.getElem?_modify, Array.getElem?_modify]
      by_cases hi : n = i
      · subst hi; simp [h]
      · simp [hi]
    rw [h3]
    congr 1
    apply Array.ext'
    simp only [Array.toList_append, Array.toList_extract, List.extract, List.drop_zero, Nat.sub_zero, Array.toList_setIfInBounds, Array.size_setIfInBounds, List.length_cons]
    have hlt : o < C.toList.length := by simp; omega
    rw [show o + 1 + vs.length = o + (vs.length + 1) by omega, List.drop_set_of_lt (by omega), List.take_set, List.take_add_one, List.getElem?_eq_getElem hlt, Option.toList_some, set_snoc _ _ _ (by rw [List.length_take]; omega)]
    simp
theorem run_store_sub {P : Program} (w : World) (n o k K : Nat) (ty : TypeId) (c : Array Value) (hi : (P.info? ty).map (·.size) = some k) (h : okRow w n K) (hk : o + k ≤ K) (hc : c.size = k) (h1 : c.all (·.oneCell') = true) :
    (storeVar ty ⟨n, o, none⟩ (.agg c)).run P w = .ok () (w.putRow n (splice (rowOf w n) o c)) := by
  obtain ⟨C, t, h2, h3⟩ := h
  have e : rowOf w n = C := by unfold rowOf; rw [h2]
  rw [e, run_storeVar_mid w n o ty c (fun j hj => ?_) (by rw [hi, hc]) h1, cells_setCells n t c.toList o w C h2 (by simp; omega)]
  · unfold splice; simp
  · have hj' : o + j < C.size := by omega
    constructor
    · simp [World.cell?, h2, hj']
    · simp [World.frozen?, h2]
theorem wpList_store_sub {P : Program} {ops : Array Oper} {rest : List Oper} {op : Oper} {a : Act} {w : World} {Q : Exit → Act → World → Prop} (hgd : op.guard = none) (ty : TypeId) (x y : Operand) (ho : op.op = .store ty x y)
    (n o : Nat) (hx : a.eval x = .pointer (some ⟨n, o, none⟩)) (c : Array Value) (hy : a.eval y = .agg c) (k K : Nat) (hi : (P.info? ty).map (·.size) = some k)
    (h : okRow w n K) (hk : o + k ≤ K) (hc : c.size = k) (h1 : c.all (·.oneCell') = true) (hK : ∀ W, w.putRow n (splice (rowOf w n) o c) = W → wpList P ops Q rest (a.put op.dst undef) W) : wpList P ops Q (op :: rest) a w :=
  wpList_plain hgd fun _ hK' => by
    unfold Oper.wp execOp
    simp only [ho, hx, hy, Instr.storeAt, Instr.sureAddr, Sem.run_bind, Sem.run_pure, Result.andThen_ok, run_store_sub w n o k K ty c hi h hk hc h1]
    exact hK' _ _ (hK _ rfl)
section
variable {w : World} {b n k : Nat}
@[go_sem] theorem okRow_turn (o : Obj) (h : n ≠ b) : okRow (w.turn b o) n k ↔ okRow w n k := by unfold okRow; rw [heap_turn_ne o h]
@[go_sem] theorem rowOf_turn (o : Obj) (h : n ≠ b) : rowOf (w.turn b o) n = rowOf w n := by unfold rowOf; rw [heap_turn_ne o h]
end
end Go.Proofs.Ytffhfpdmfegcpac.turn
