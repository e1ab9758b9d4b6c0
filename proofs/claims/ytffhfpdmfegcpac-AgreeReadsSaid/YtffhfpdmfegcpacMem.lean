/- A row of cells read and written whole, in a world with new blocks. No function of the program is mentioned. -/
import Derived.Test.YtffhfpdmfegcpacBase2
namespace Go.Proofs.Ytffhfpdmfegcpac.base
open Go.ChangeShapes Go.WideShapes Go.ChangeAt Go.RowKit
set_option linter.unusedVariables false
set_option linter.unusedSimpArgs false

theorem World.heap_alloc_old' (w : World) (o : Obj) {r : Nat} (h : r < w.heap.size) : (w.alloc o).heap[r]? = w.heap[r]? := by
  show (w.heap.push o)[r]? = w.heap[r]?
  rw [Array.getElem?_push, if_neg (Nat.ne_of_lt h)]
/-- the cells of block n -/
def rowOf (w : World) (n : Nat) : Array Value := match w.heap[n]? with | some (.cells c _ _) => c | _ => #[]
/-- block n is a row of k cells, none of them frozen -/
def okRow (w : World) (n k : Nat) : Prop := ∃ c t, w.heap[n]? = some (.cells c t (0, 0)) ∧ c.size = k
def okObj (o : Obj) (k : Nat) : Prop := ∃ c t, o = .cells c t (0, 0) ∧ c.size = k
theorem okRow_lt {w : World} {n k : Nat} (h : okRow w n k) : n < w.heap.size := by
  obtain ⟨c, t, h, _⟩ := h
  rcases Nat.lt_or_ge n w.heap.size with h1 | h1
  · exact h1
  · rw [Array.getElem?_eq_none h1] at h; cases h

section
variable {w : World} {n k : Nat}
@[go_sem] theorem okObj_cells (c : Array Value) (t : TypeId) : okObj (.cells c t (0, 0)) k ↔ c.size = k :=
  ⟨fun ⟨c', t', h, h2⟩ => by injection h with h3; subst h3; exact h2, fun h => ⟨c, t, rfl, h⟩⟩
@[go_sem] theorem okRow_alloc (o : Obj) : okRow (w.alloc o) n k ↔ (n = w.heap.size ∧ okObj o k) ∨ okRow w n k := by
  constructor
  · rintro ⟨c, t, h, hs⟩
    rcases Nat.lt_or_ge n w.heap.size with h1 | h1
    · right
      rw [World.heap_alloc_old' w o h1] at h
      exact ⟨c, t, h, hs⟩
    · left
      have h2 : n = w.heap.size := by
        rcases Nat.lt_or_ge n (w.alloc o).heap.size with h3 | h3
        · simp at h3; omega
        · rw [Array.getElem?_eq_none h3] at h; cases h
      subst h2
      rw [heap_alloc_new] at h
      injection h with h
      exact ⟨rfl, c, t, h, hs⟩
  · rintro (⟨rfl, c, t, rfl, hs⟩ | h)
    · exact ⟨c, t, heap_alloc_new w _, hs⟩
    · have h1 := okRow_lt h
      obtain ⟨c, t, h, hs⟩ := h
      exact ⟨c, t, by rw [World.heap_alloc_old' w o h1]; exact h, hs⟩
def farRow (w : World) (l : Array Obj) (d n k : Nat) : Prop := okRow (w.later l d) n k
@[go_sem] theorem okRow_later (l : Array Obj) (d : Nat) : okRow (w.later l d) n k ↔ (okRow w n k ∨ farRow w l d n k) := by
  constructor
  · intro h; exact .inr h
  · rintro (h | h)
    · have h1 := okRow_lt h
      obtain ⟨c, t, h, hs⟩ := h
      exact ⟨c, t, by rw [heap_later w l d n h1]; exact h, hs⟩
    · exact h
@[go_sem] theorem okRow_drew : okRow w.drew n k ↔ okRow w n k := Iff.rfl
@[go_sem] theorem okRow_drewN (m : Nat) : okRow (w.drewN m) n k ↔ okRow w n k := Iff.rfl
@[go_sem] theorem rowOf_new (c : Array Value) (t : TypeId) (h : n = w.heap.size) : rowOf (w.alloc (.cells c t (0, 0))) n = c := by
  subst h; unfold rowOf; rw [heap_alloc_new]
@[go_sem] theorem rowOf_alloc (o : Obj) (h : inB w n) : rowOf (w.alloc o) n = rowOf w n := by
  unfold rowOf; rw [World.heap_alloc_old' w o h]
@[go_sem] theorem rowOf_later (l : Array Obj) (d : Nat) (h : inB w n) : rowOf (w.later l d) n = rowOf w n := by
  unfold rowOf; rw [heap_later w l d n h]
@[go_sem] theorem rowOf_drew : rowOf w.drew n = rowOf w n := rfl
@[go_sem] theorem rowOf_drewN (m : Nat) : rowOf (w.drewN m) n = rowOf w n := rfl

/-- the whole of block n is stored anew -/
def _root_.Go.World.putRow (w : World) (n : Nat) (c : Array Value) : World :=
  { w with heap := w.heap.modify n fun | .cells _ t fr => .cells c t fr | o => o }
theorem size_putRow (c : Array Value) : (w.putRow n c).heap.size = w.heap.size := by simp [World.putRow]
@[go_sem] theorem putRow_new (c c' : Array Value) (t : TypeId) (h : n = w.heap.size) : (w.alloc (.cells c' t (0, 0))).putRow n c = w.alloc (.cells c t (0, 0)) := by
  subst h
  simp only [World.putRow, World.alloc]
  congr 1
  apply Array.ext_getElem?
  intro i
  simp only [Array.getElem?_modify, Array.getElem?_push]
  by_cases hi : i = w.heap.size
  · subst hi; simp
  · simp [hi, Ne.symm hi]
@[go_sem] theorem putRow_alloc (o : Obj) (c : Array Value) (h : inB w n) : (w.alloc o).putRow n c = (w.putRow n c).alloc o := by
  simp only [World.putRow, World.alloc]
  congr 1
  apply Array.ext_getElem?
  intro i
  simp only [Array.getElem?_modify, Array.getElem?_push, Array.size_modify]
  by_cases hi : i = w.heap.size
  · subst hi; unfold inB at h; simp; omega
  · simp [hi]
@[go_sem] theorem putRow_later (l : Array Obj) (d : Nat) (c : Array Value) (h : inB w n) : (w.later l d).putRow n c = (w.putRow n c).later l d := by
  simp only [World.putRow, World.later]
  congr 1
  apply Array.ext_getElem?
  intro i
  simp only [Array.getElem?_modify, Array.getElem?_append, Array.size_modify]
  unfold inB at h
  by_cases hk : n = i
  · subst hk; simp [h]
  · simp [hk]
@[go_sem] theorem putRow_drew (c : Array Value) : w.drew.putRow n c = (w.putRow n c).drew := rfl
@[go_sem] theorem putRow_drewN (m : Nat) (c : Array Value) : (w.drewN m).putRow n c = (w.putRow n c).drewN m := rfl
end

section
variable {P : Program}
/-- a row is loaded whole -/
theorem run_load_row (w : World) (n : Nat) (ty : TypeId) (k : Nat) (d : TypeDesc) (hu : P.underlying ty = some d) (hd : (match d with | .struct _ | .array _ _ => true | _ => false) = true) (hi : (P.info? ty).map (·.size) = some k) (h : okRow w n k) :
    (loadVar ty ⟨n, 0, none⟩).run P w = .ok (.agg (rowOf w n)) w := by
  obtain ⟨c, t, h1, h2⟩ := h
  have e : rowOf w n = c := by unfold rowOf; rw [h1]
  rw [e]
  exact run_loadVar_row w n t ty c (0, 0) d h1 hu hd (by rw [h2]; exact hi)

theorem setRow_putRow (w : World) (n : Nat) (c c' : Array Value) (t : TypeId) (h : w.heap[n]? = some (.cells c t (0, 0))) : w.setRow n c' = w.putRow n c' := by
  simp only [World.setRow, World.putRow]
  congr 2

/-- a row is stored whole -/
theorem run_store_row (w : World) (n : Nat) (ty : TypeId) (k : Nat) (c : Array Value) (hi : (P.info? ty).map (·.size) = some k) (h : okRow w n k) (hc : c.size = k) (h1 : c.all (·.oneCell') = true) :
    (storeVar ty ⟨n, 0, none⟩ (.agg c)).run P w = .ok () (w.putRow n c) := by
  obtain ⟨c0, t, h2, h3⟩ := h
  rw [run_storeVar_row w n t ty c0 c h2 (by rw [hc]; exact hi) (by omega) h1, setRow_putRow w n c0 c t h2]

/-- the walk's step at such a load -/
theorem wp_load_r {o : Oper} {a : Act} {w : World} {K : Act → World → Prop} {Q : Exit → Act → World → Prop} (ty : TypeId) (x : Operand) (ho : o.op = .load ty x)
    (n : Nat) (hx : a.eval x = .pointer (some ⟨n, 0, none⟩)) (k : Nat) (d : TypeDesc) (hu : P.underlying ty = some d) (hd : (match d with | .struct _ | .array _ _ => true | _ => false) = true) (hi : (P.info? ty).map (·.size) = some k)
    (h : okRow w n k) (hK : ∀ C, rowOf w n = C → K (a.put o.dst (.agg C)) w) : o.wp P a w K Q := by
  unfold Oper.wp execOp
  simp only [ho, hx, Instr.loadAt, Instr.sureAddr, Sem.run_bind, Sem.run_pure, Result.andThen_ok, run_load_row w n ty k d hu hd hi h]
  exact hK _ rfl
theorem wpList_load_r {ops : Array Oper} {rest : List Oper} {o : Oper} {a : Act} {w : World} {Q : Exit → Act → World → Prop} (hgd : o.guard = none) (ty : TypeId) (x : Operand) (ho : o.op = .load ty x)
    (n : Nat) (hx : a.eval x = .pointer (some ⟨n, 0, none⟩)) (k : Nat) (d : TypeDesc) (hu : P.underlying ty = some d) (hd : (match d with | .struct _ | .array _ _ => true | _ => false) = true) (hi : (P.info? ty).map (·.size) = some k)
    (h : okRow w n k) (hK : ∀ C, rowOf w n = C → wpList P ops Q rest (a.put o.dst (.agg C)) w) : wpList P ops Q (o :: rest) a w :=
  wpList_plain hgd fun _ hK' => wp_load_r ty x ho n hx k d hu hd hi h fun C hC => hK' _ _ (hK C hC)
theorem wp_store_r {o : Oper} {a : Act} {w : World} {K : Act → World → Prop} {Q : Exit → Act → World → Prop} (ty : TypeId) (x y : Operand) (ho : o.op = .store ty x y)
    (n : Nat) (hx : a.eval x = .pointer (some ⟨n, 0, none⟩)) (c : Array Value) (hy : a.eval y = .agg c) (k : Nat) (hi : (P.info? ty).map (·.size) = some k)
    (h : okRow w n k) (hc : c.size = k) (h1 : c.all (·.oneCell') = true) (hK : ∀ W, w.putRow n c = W → K (a.put o.dst undef) W) : o.wp P a w K Q := by
  unfold Oper.wp execOp
  simp only [ho, hx, hy, Instr.storeAt, Instr.sureAddr, Sem.run_bind, Sem.run_pure, Result.andThen_ok, run_store_row w n ty k c hi h hc h1]
  exact hK _ rfl
theorem wpList_store_r {ops : Array Oper} {rest : List Oper} {o : Oper} {a : Act} {w : World} {Q : Exit → Act → World → Prop} (hgd : o.guard = none) (ty : TypeId) (x y : Operand) (ho : o.op = .store ty x y)
    (n : Nat) (hx : a.eval x = .pointer (some ⟨n, 0, none⟩)) (c : Array Value) (hy : a.eval y = .agg c) (k : Nat) (hi : (P.info? ty).map (·.size) = some k)
    (h : okRow w n k) (hc : c.size = k) (h1 : c.all (·.oneCell') = true) (hK : ∀ W, w.putRow n c = W → wpList P ops Q rest (a.put o.dst undef) W) : wpList P ops Q (o :: rest) a w :=
  wpList_plain hgd fun _ hK' => wp_store_r ty x y ho n hx c hy k hi h hc h1 fun W hW => hK' _ _ (hK W hW)

/-- a row and a slot are returned -/
theorem results_row_tmp {fn : Func} {p t : Tmp} {ty : TypeId} (h : fn.results = #[.cell p ty, .tmp t]) (tmps : Array Value) (w : World) (n k : Nat) (d : TypeDesc)
    (hp : tmps.getD p undef = .pointer (some ⟨n, 0, none⟩)) (hu : P.underlying ty = some d) (hd : (match d with | .struct _ | .array _ _ => true | _ => false) = true) (hi : (P.info? ty).map (·.size) = some k) (hr : okRow w n k)
    (C : Array Value) (hC : rowOf w n = C) (v : Value) (hv : tmps.getD t undef = v) : (results fn tmps).run P w = .ok (.tuple #[.agg C, v]) w := by
  have hp' : tmps[p]?.getD undef = .pointer (some ⟨n, 0, none⟩) := by simpa using hp
  have hv' : tmps[t]?.getD undef = v := by simpa using hv
  simp [results, h, hp', hv', asAddr, run_load_row w n ty k d hu hd hi hr, hC]
theorem results_row {fn : Func} {p : Tmp} {ty : TypeId} (h : fn.results = #[.cell p ty]) (tmps : Array Value) (w : World) (n k : Nat) (d : TypeDesc)
    (hp : tmps.getD p undef = .pointer (some ⟨n, 0, none⟩)) (hu : P.underlying ty = some d) (hd : (match d with | .struct _ | .array _ _ => true | _ => false) = true) (hi : (P.info? ty).map (·.size) = some k) (hr : okRow w n k)
    (C : Array Value) (hC : rowOf w n = C) : (results fn tmps).run P w = .ok (.agg C) w := by
  have hp' : tmps[p]?.getD undef = .pointer (some ⟨n, 0, none⟩) := by simpa using hp
  simp [results, h, hp', asAddr, run_load_row w n ty k d hu hd hi hr, hC]
end

theorem later_zero (w : World) : w = w.later #[] w.drawn := by simp [World.later]
theorem own_more {W : World} {l : Array Obj} {d base : Nat} {e : TypeId} {size : Nat} {v : Value} {n : Nat} {xs : List Value} (h : (W.later l d).ownsRow base e size v n xs) (l' : Array Obj) (d' : Nat) : (W.later (l ++ l') d').ownsRow base e size v n xs := by
  have h1 := own_later (l := l') (d := d') h
  rwa [later_later] at h1
end Go.Proofs.Ytffhfpdmfegcpac.base
