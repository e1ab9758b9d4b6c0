/- A map of the call's own from kinds to pointers into one block, and a range over it. -/
import Derived.Test.YtffhfpdmfegcpabKnob
import Derived.Test.YtffhfpdmfegcpabBase2
import Derived.Maps.RangeWalk
import Derived.Maps.OwnOps
namespace Go.Proofs.Ytffhfpdmfegcpab.ptrMap
open Go.ChangeShapes Go.WideShapes Go.ChangeAt Go.RowKit
open Go.Proofs.Ytffhfpdmfegcpab.base
set_option linter.unusedVariables false
set_option linter.unusedSimpArgs false

theorem law : Maps.Keyed Try.prog 54 := Maps.int_keyed Try.underlying54
/-- how a pointer into block g reads: by its place -/
def PR (g : Nat) (v : Value) : Option (DataW Unit × List MemPlace) :=
  match v with
  | .pointer (some ⟨b, off, none⟩) => if b = g then some (.lit (.int .i64 off), []) else none
  | _ => none
theorem PR_mk (g off : Nat) : PR g (.pointer (some ⟨g, off, none⟩)) = some (.lit (.int .i64 off), []) := if_pos rfl
theorem PR_inv (g : Nat) (v : Value) (y : DataW Unit × List MemPlace) (h : PR g v = some y) : ∃ off : Nat, v = .pointer (some ⟨g, off, none⟩) := by
  unfold PR at h
  split at h
  · split at h
    · rename_i hb; subst hb; exact ⟨_, rfl⟩
    · cases h
  · cases h
theorem key_ok {x : Int} (h0 : 0 ≤ x) (h9 : x ≤ 9) : keyOf Try.prog 54 (.int .i64 x) = some (.int .i64 x) :=
  Maps.keyOf_int_mk Try.underlying54 (WalkArith.wf_i64 (by omega))

/-- the map D holds f -/
def Holds (D : DataW Unit) (f : Int → Option Nat) : Prop :=
  (∀ x : Int, Maps.has D (.int .i64 x) = (f x).isSome) ∧ (∀ (x : Int) (zd : DataW Unit), D.atKey (.int .i64 x) zd = match f x with | some b => .lit (.int .i64 b) | none => zd)
theorem holds_nil : Holds (.map []) (fun _ => none) := ⟨fun _ => rfl, fun _ _ => rfl⟩
theorem holds_put {D : DataW Unit} {f : Int → Option Nat} (h : Holds D f) (hD : Maps.IsMap D) (x : Int) (b : Nat) : Holds (D.put (.int .i64 x) (.lit (.int .i64 b))) (fun y => if y = x then some b else f y) := by
  have hx : WideAt.IsKeyLit (.int .i64 x) := trivial
  constructor
  · intro y
    by_cases e : y = x
    · subst e; rw [Maps.has_put_same hD hx]; simp
    · rw [Maps.has_put_other (fun h => e (by injection h))]; simp only [if_neg e]; exact h.1 y
  · intro y zd
    by_cases e : y = x
    · subst e; rw [Maps.atKey_put_same hD hx]; simp
    · rw [Maps.atKey_put_other (fun h => e (by injection h))]; simp only [if_neg e]; exact h.2 y zd
theorem holds_congr {D : DataW Unit} {f f' : Int → Option Nat} (h : Holds D f) (e : ∀ x, f x = f' x) : Holds D f' := by
  have : f = f' := funext e
  rw [← this]; exact h

set_option maxRecDepth 100000 in
theorem came {g : Nat} {D : DataW Unit} {f : Int → Option Nat} (hD : Holds D f) {x : Int} {c : Nat} {kl : Lit} {y : DataW Unit × List MemPlace} (hk : keyOf Try.prog 54 (.int .i64 x) = some kl) (hv : PR g (.pointer (some ⟨g, c, none⟩)) = some y) (hat : ∀ zd, D.atKey kl zd = y.1) : kl = .int .i64 x ∧ f x = some c := by
  obtain ⟨x', ex, rfl, _⟩ := Maps.keyOf_int_inv Try.underlying54 hk
  injection ex with _ ex
  subst ex
  refine ⟨rfl, ?_⟩
  obtain rfl := Option.some.inj ((PR_mk g c).symm.trans hv)
  clear hv
  have h1 := hat (.map [])
  rw [hD.2] at h1
  cases hf : f x with
  | none => rw [hf] at h1; cases h1
  | some b => rw [hf] at h1; injection h1 with h1; injection h1 with _ h1; congr 1; omega

/-- an entry is laid into such a map, inside a region that draws -/
theorem step_insert {ops : Array Oper} {o : Oper} {a : Act} {K : Act → World → Prop} {Q : Exit → Act → World → Prop} {E : Prop} {w : World} (hgd : o.guard = none) (m x v : Operand)
    (hop : o.op = Op.insert 126 m x v) (g b n : Nat) (D : DataW Unit) (hm : a.eval m = .map (some b)) (hown : w.ownsMap Try.prog 54 (PR g) b n D) (hn : n < maxLen) (z : Int) (h0 : 0 ≤ z) (h9 : z ≤ 9) (off : Nat)
    (hx : a.eval x = .int .i64 z) (hv : a.eval v = .pointer (some ⟨g, off, none⟩))
    (h : ∀ w', w'.ownsMap Try.prog 54 (PR g) b (n + 1) (D.put (.int .i64 z) (.lit (.int .i64 off))) → w.grownBy w' (some b) → K (a.put o.dst undef) w') :
    if Region.wanted o (yielded ops a.tmps) = true then Oper.wp Try.prog o a w K Q else E := by
  have hw : Region.wanted o (yielded ops a.tmps) = true := by simp [Region.wanted, hgd]
  rw [if_pos hw]
  obtain ⟨w', hrun, r1, r2⟩ := hown.update law Try.underlying126 hn (key_ok h0 h9) (PR_mk g off)
  unfold Oper.wp
  simp [execOp, hop, hm, hx, hv, hrun, Result.andThen]
  exact h w' r1 r2
/-- a range over such a map begins -/
theorem step_range {ops : Array Oper} {o : Oper} {a : Act} {K : Act → World → Prop} {Q : Exit → Act → World → Prop} {E : Prop} {w : World} (hgd : o.guard = none) (m : Operand)
    (hop : o.op = Op.range 126 m) (g b n : Nat) (D : DataW Unit) (hm : a.eval m = .map (some b)) (hown : w.ownsMap Try.prog 54 (PR g) b n D)
    (h : ∀ w', w'.ranges Try.prog 54 (PR g) b w.heap.size n D (Maps.has D) (Maps.size D) → w.grownBy w' none → w'.heap.size = w.heap.size + 1 → K (a.put o.dst (.pointer (some ⟨w.heap.size, 0, none⟩))) w') :
    if Region.wanted o (yielded ops a.tmps) = true then Oper.wp Try.prog o a w K Q else E := by
  have hw : Region.wanted o (yielded ops a.tmps) = true := by simp [Region.wanted, hgd]
  rw [if_pos hw]
  obtain ⟨w', hrun, r1, r2, r3⟩ := hown.range law Try.underlying126
  unfold Oper.wp
  simp [execOp, hop, hm, hrun, Result.andThen]
  exact h w' r1 r2 r3
/-- the step of a range over such a map, for the walk -/
theorem next_ptr {ops : Array Oper} {rest : List Oper} {o : Oper} {a : Act} {Q : Exit → Act → World → Prop} (hgd : o.guard = none) (it : Operand) (hop : o.op = Op.next it false) (Wb : World) (l : Array Obj) (d g b r n : Nat) (D : DataW Unit) (f : Int → Option Nat) (left : Lit → Bool) (cnt : Nat)
    (hD : Holds D f) (hrb : Wb.heap.size ≤ r) (hit : a.eval it = .pointer (some ⟨r, 0, none⟩)) (h : (Wb.later l d).ranges Try.prog 54 (PR g) b r n D left cnt)
    (hDone : (∀ kl, left kl = false) → wpList Try.prog ops Q rest (a.put o.dst (.tuple #[.bool false])) (Wb.later l d))
    (hMore : ∀ (x : Int) (c : Nat) (cnt' : Nat) (l' : Array Obj) (d' : Nat), f x = some c → left (.int .i64 x) = true → (Wb.later l' d').ranges Try.prog 54 (PR g) b r n D (fun z => left z && !z.sameKey (.int .i64 x)) cnt' → cnt' < cnt →
      (Wb.later l d).grownBy (Wb.later l' d') (some r) → l'.size = l.size →
      (Instr.entry (.pointer (some ⟨r, 0, none⟩))).run Try.prog (Wb.later l' d') = .ok (.tuple #[.int .i64 x, .pointer (some ⟨g, c, none⟩)]) (Wb.later l' d') → wpList Try.prog ops Q rest (a.put o.dst (.tuple #[.bool true, .int .i64 x, .pointer (some ⟨g, c, none⟩)])) (Wb.later l' d')) :
    wpList Try.prog ops Q (o :: rest) a (Wb.later l d) := by
  refine wpList_next_ranges _ hgd it hop 54 law (PR g) (Value.int .i64) (fun off : Nat => Value.pointer (some ⟨g, off, none⟩)) (fun key kl hkey => by obtain ⟨x, rfl, _⟩ := Maps.keyOf_int_inv Try.underlying54 hkey; exact ⟨x, rfl⟩) (PR_inv g) b r n D left cnt hit h (fun _ hl => hDone hl) ?_
  intro x c kl y w' cnt' hk hlk hy hat hrg hlt hgr hsz hen
  obtain ⟨rfl, hx⟩ := came hD hk hy hat
  obtain ⟨l', d', rfl⟩ := later_of (below_grown (below_later (Below.refl _ _) (Nat.le_refl _) l d) hgr (by intro g hg; injection hg with hg; omega) : Below Wb.heap.size Wb w')
  exact hMore x c cnt' l' d' hx hlk hrg hlt hgr (by simpa using hsz) hen
end Go.Proofs.Ytffhfpdmfegcpab.ptrMap
