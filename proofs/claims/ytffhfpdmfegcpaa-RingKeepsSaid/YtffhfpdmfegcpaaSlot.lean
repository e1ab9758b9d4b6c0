/- A slice of slots: its records; the contracts of ringdoveref.Under and ring.by. -/
import Derived.Test.YtffhfpdmfegcpaaTable2
import Derived.Test.YtffhfpdmfegcpaaKnob
import Derived.Test.YtffhfpdmfegcpaaMem
namespace Go.Proofs.Ytffhfpdmfegcpaa.slot
open Go.ChangeShapes Go.WideShapes Go.ChangeAt Go.RowKit
open Go.Proofs.Ytffhfpdmfegcpaa.base Go.Proofs.Ytffhfpdmfegcpaa.flat Go.Proofs.Ytffhfpdmfegcpaa.table
set_option linter.unusedVariables false
set_option linter.unusedSimpArgs false

/-- a slot -/
structure S4 where
  at_ : Int
  full : Bool
  by_ : Int
  wait : Int
def S4.cells (x : S4) : List Value := [.int .i64 x.at_, .bool x.full, .int .i64 x.by_, .int .i64 x.wait]
def S4.Ok (x : S4) : Prop := (Lit.int .i64 x.at_).wf = true ∧ (Lit.int .i64 x.by_).wf = true ∧ (Lit.int .i64 x.wait).wf = true
def SlotsAt (w : World) (a : Option Addr) (xs : List S4) : Prop := RowsAt 4 w a (xs.map S4.cells)

section
variable {H : Type} {enc : TypeId × Value → H} {P : Program} {w : World} {base : Nat} {spare : Nat → Bool} {held : Bool}
theorem all2_slot {cs : List Value} (h : All2 enc P w base spare held [.int .i64, .bool, .int .i64, .int .i64] cs) :
    ∃ (a : Int) (b : Bool) (c d : Int), cs = [.int .i64 a, .bool b, .int .i64 c, .int .i64 d] ∧ (Lit.int .i64 a).wf = true ∧ (Lit.int .i64 c).wf = true ∧ (Lit.int .i64 d).wf = true := by
  obtain ⟨_, _, rfl, ⟨a, rfl, ha⟩, g1⟩ := all2_cons h
  obtain ⟨_, _, rfl, ⟨b, rfl⟩, g2⟩ := all2_cons g1
  obtain ⟨_, _, rfl, ⟨c, rfl, hc⟩, g3⟩ := all2_cons g2
  obtain ⟨_, _, rfl, ⟨d, rfl, hd⟩, g4⟩ := all2_cons g3
  obtain rfl := all2_nil g4
  exact ⟨a, b, c, d, rfl, ha, hc, hd⟩
theorem open_slots {m : Nat} {t e : TypeId} {a : Option Addr} {len cap : Nat} {d : DataW H} {ps : List MemPlace} (ht : P.underlying t = some (.slice e)) (hk : flat P m e = some [.int .i64, .bool, .int .i64, .int .i64]) (hl : 4 = P.cellsOf e)
    (h : DataW.Trod enc P w base spare held t (.slice a len cap) d ps) :
    len ≤ cap ∧ cap ≤ maxLen ∧ (a = none → len = 0) ∧ ∃ xs : List S4, xs.length = len ∧ SlotsAt w a xs ∧ ∀ x ∈ xs, x.Ok := by
  obtain ⟨h1, h2, h3, rs, h4, h5, h6⟩ := open_rows _ ht hk hl (by decide) h
  obtain ⟨xs, rfl, hxs⟩ := rows_of (cells := S4.cells) (good := S4.Ok) (rs := rs) fun r hr => by
    obtain ⟨a, b, c, d, rfl, wa, wc, wd⟩ := all2_slot (h6 r hr)
    exact ⟨⟨a, b, c, d⟩, rfl, wa, wc, wd⟩
  exact ⟨h1, h2, h3, xs, by simpa using h4, h5, hxs⟩
end
theorem SlotsAt.at {w : World} {b off : Nat} {xs : List S4} (h : SlotsAt w (some ⟨b, off, none⟩) xs) {i : Nat} {x : S4} (hx : xs[i]? = some x) :
    w.cell? ⟨b, off + i * 4, none⟩ = some (.int .i64 x.at_) ∧ w.cell? ⟨b, off + i * 4 + 1, none⟩ = some (.bool x.full) ∧ w.cell? ⟨b, off + i * 4 + 2, none⟩ = some (.int .i64 x.by_) ∧ w.cell? ⟨b, off + i * 4 + 3, none⟩ = some (.int .i64 x.wait) := by
  have hr : (xs.map S4.cells)[i]? = some x.cells := by simp [hx]
  exact ⟨RowsAt.at h hr (j := 0) rfl, RowsAt.at h hr (j := 1) rfl, RowsAt.at h hr (j := 2) rfl, RowsAt.at h hr (j := 3) rfl⟩
theorem SlotsAt.below {w w' : World} {a : Option Addr} {xs : List S4} (h : SlotsAt w a xs) (hb : Below w.heap.size w w') : SlotsAt w' a xs := RowsAt.below h hb
theorem SlotsAt.form {w : World} {a : Option Addr} {xs : List S4} (h : SlotsAt w a xs) {i : Nat} {x : S4} (hx : xs[i]? = some x) : ∃ b off, a = some ⟨b, off, none⟩ :=
  RowsAt.form h (i := i) (r := x.cells) (by simp [hx])
theorem SlotsAt.take {w : World} {a : Option Addr} {xs : List S4} (h : SlotsAt w a xs) (k : Nat) : SlotsAt w a (xs.take k) := by
  rcases h with h | ⟨b, off, h1, h2⟩
  · obtain rfl : xs = [] := by simpa using h
    left; simp
  · refine .inr ⟨b, off, h1, fun i r hr => h2 i r ?_⟩
    rw [List.map_take, List.getElem?_take] at hr
    split at hr
    · exact hr
    · cases hr

/-- a full slot of a node -/
def S4.of (x : S4) (node : Int) : Bool := x.full && decide (x.by_ = node)
def byB (xs : List S4) (node : Int) : Bool := xs.any fun x : S4 => x.of node
theorem byB_hit {xs : List S4} {node : Int} {k : Nat} {x : S4} (hx : xs[k]? = some x) (h : x.of node = true) : byB xs node = true :=
  List.any_eq_true.2 ⟨x, List.mem_of_getElem? hx, h⟩
theorem byB_miss {xs : List S4} {node : Int} (h : ∀ (i : Nat) (x : S4), xs[i]? = some x → x.of node = false) : byB xs node = false := by
  unfold byB
  rw [List.any_eq_false]
  intro x hx
  obtain ⟨i, hi, e⟩ := List.getElem_of_mem hx
  rw [h i x (by rw [← e]; exact List.getElem?_eq_getElem hi)]
  decide

theorem next_miss {xs : List S4} {node : Int} {k : Nat} {x : S4} (hx : xs[k]? = some x) (h : ∀ (i : Nat) (x : S4), i < k → xs[i]? = some x → x.of node = false) (hf : x.of node = false) : ∀ (i : Nat) (y : S4), i < k + 1 → xs[i]? = some y → y.of node = false := by
  intro i y hi hy
  by_cases hik : i < k
  · exact h i y hik hy
  · obtain rfl : i = k := by omega
    obtain rfl := Option.some.inj (hx.symm.trans hy)
    exact hf
def RelU (xs : List S4) (node : Int) (w0 : World) (i : Value) (wr : World) : Prop :=
  ∃ (k : Nat) (l : Array Obj) (d : Nat), k ≤ xs.length ∧ i = .int .i64 k ∧ wr = w0.later l d ∧ ∀ (i : Nat) (x : S4), i < k → xs[i]? = some x → x.of node = false

set_option maxHeartbeats 1000000 in
set_option maxRecDepth 100000 in
theorem by1_any (x : S4) (node : Int) (g : Nat) (w : World) (hg : w.cell? ⟨g, 0, none⟩ = some (.int .i64 node)) :
    Calls Try.prog 82 #[.agg #[.int .i64 x.at_, .bool x.full, .int .i64 x.by_, .int .i64 x.wait], .pointer (some ⟨g, 0, none⟩)] w (Ret (.bool (x.of node)) w) := by
  have hgi : inB w g := lt_of_cell hg
  obtain ⟨xa, xf, xb, xw⟩ := x
  cases xf with
  | false =>
    rw [show (⟨xa, false, xb, xw⟩ : S4).of node = false from rfl]
    go_enter Try.func82, Try.ntmps82
    go_wp2
    go_ret
    exact ⟨rfl, (by repeat (first | exact Below.refl _ _ | apply bs_later | apply bs_alloc | apply bs_drew | apply bs_drewN))⟩
  | true =>
    rw [show (⟨xa, true, xb, xw⟩ : S4).of node = (xb == node) from rfl]
    go_enter Try.func82, Try.ntmps82
    go_wp2
    go_ret
    exact ⟨rfl, (by repeat (first | exact Below.refl _ _ | apply bs_later | apply bs_alloc | apply bs_drew | apply bs_drewN))⟩

/-- an index that tells whether one is there -/
def IdxBy (xs : List S4) (node : Int) (w : World) (e : Ending) (w' : World) : Prop := ∃ k : Int, e = .returned (.int .i64 k) ∧ ((byB xs node = true ∧ 0 ≤ k) ∨ (byB xs node = false ∧ k = -1)) ∧ Below w.heap.size w w'

set_option maxHeartbeats 1000000 in
set_option maxRecDepth 100000 in
theorem index_by (xs : List S4) (node : Int) (a : Option Addr) (n c g : Nat) (w : World) (hm : n ≤ maxLen) (hd : xs.length = n) (h : SlotsAt w a xs) (hg : w.cell? ⟨g, 0, none⟩ = some (.int .i64 node)) :
    Calls Try.prog 89 #[.slice a n c, .func (.func 82) #[] #[.pointer (some ⟨g, 0, none⟩)]] w (IdxBy xs node w) := by
  unfold maxLen at hm
  have HDL := Lib.hid hd
  have HT := Lib.hid h
  have hgi : inB w g := lt_of_cell hg
  clear hd h
  go_enter Try.func89, Try.ntmps89
  go_wp2
  go_loopw [8] (RelU xs node w) (fun i _ => n - (intOf i).toNat)
  case atStart => exact ⟨0, #[], _, by omega, rfl, later_zero _, fun i x hi => by omega⟩
  case round =>
    obtain ⟨k, l, d, hk, rfl, rfl, hall⟩ := hrel
    by_cases hlt : k < n
    · obtain ⟨x, hx⟩ := get_some (xs := xs) (k := k) (by rw [HDL.out]; exact hlt)
      obtain ⟨b, off, rfl⟩ := SlotsAt.form HT.out hx
      obtain ⟨c0, c1, c2, c3⟩ := SlotsAt.at HT.out hx
      have hin : inB w b := lt_of_cell c0
      obtain ⟨xa, xf, xb, xw⟩ := x
      simp only at c0 c1 c2 c3
      have HX := Lib.hid hx
      have HALL := Lib.hid hall
      have HJ : Hid (k + 1 ≤ xs.length) := Lib.hid (by rw [HDL.out]; exact hlt)
      have P := fun w hg => by1_any (⟨xa, xf, xb, xw⟩ : S4) node g w hg
      simp only at P
      have hcase : (⟨xa, xf, xb, xw⟩ : S4).of node = true ∨ (⟨xa, xf, xb, xw⟩ : S4).of node = false := by cases (⟨xa, xf, xb, xw⟩ : S4).of node <;> simp
      clear hx hall hk
      rcases hcase with hc | hc
      · rw [hc] at P
        have HP := Lib.hid P
        have HC := Lib.hid (byB_hit HX.out hc)
        clear P hc
        go_wp2_with (go_at_call 82; refine (HP.out _ ?g1).mono ?_; (case g1 => rw [(bs_later (Below.refl _ _) _ _ : Below w.heap.size w (w.later l d)).cell (p := ⟨g, 0, none⟩) hgi]; exact hg); rintro e w1 ⟨rfl, hb1⟩; obtain ⟨l1, d1, rfl⟩ := later_of hb1; clear hb1)
        go_ret
        exact ⟨_, rfl, .inl ⟨HC.out, Int.natCast_nonneg _⟩, (by repeat (first | exact Below.refl _ _ | apply bs_later | apply bs_alloc | apply bs_drew | apply bs_drewN))⟩
      · rw [hc] at P
        have HP := Lib.hid P
        have HC := Lib.hid hc
        clear P hc
        go_wp2_with (go_at_call 82; refine (HP.out _ ?g2).mono ?_; (case g2 => rw [(bs_later (Below.refl _ _) _ _ : Below w.heap.size w (w.later l d)).cell (p := ⟨g, 0, none⟩) hgi]; exact hg); rintro e w1 ⟨rfl, hb1⟩; obtain ⟨l1, d1, rfl⟩ := later_of hb1; clear hb1)
        rw [later_later]
        go_roundw
        case rel => exact ⟨k + 1, _, _, HJ.out, by go_num, rfl, next_miss HX.out HALL.out HC.out⟩
        case measure => simp [intOf]; omega
    · obtain rfl : k = n := by have := HDL.out; omega
      have HF := Lib.hid (byB_miss (xs := xs) (node := node) fun i x hx => hall i x (by rw [← HDL.out]; exact (List.getElem?_eq_some_iff.1 hx).1) hx)
      clear hall
      go_wp2
      go_ret
      exact ⟨-1, rfl, .inr ⟨HF.out, rfl⟩, (by repeat (first | exact Below.refl _ _ | apply bs_later | apply bs_alloc | apply bs_drew | apply bs_drewN))⟩

theorem idx_dec {p : Bool} {k : Int} (h : (p = true ∧ 0 ≤ k) ∨ (p = false ∧ k = -1)) : p = decide (0 ≤ k) := by
  rcases h with ⟨rfl, h⟩ | ⟨rfl, rfl⟩
  · exact (decide_eq_true h).symm
  · rfl
set_option maxHeartbeats 1000000 in
set_option maxRecDepth 100000 in
theorem by_any (xs : List S4) (node : Int) (a : Option Addr) (n c : Nat) (w : World) (hm : n ≤ maxLen) (hd : xs.length = n) (h : SlotsAt w a xs) :
    Calls Try.prog 67 #[.slice a n c, .int .i64 node] w (Ret (.bool (byB xs node)) w) := by
  have P := fun w h g hg => index_by xs node a n c g w hm hd h hg
  have HP := Lib.hid P
  have HT := Lib.hid h
  clear P hd h
  go_enter Try.func67, Try.ntmps67
  go_wp2_with (first
    | (go_at_call 81; go_in)
    | (go_at_call 89; refine (HP.out _ (SlotsAt.below HT.out (bs_alloc (Below.refl _ _) _)) _ (by simp [go_sem])).mono ?_; rintro e w1 ⟨k, rfl, hk, hb1⟩; obtain ⟨l1, d1, rfl⟩ := later_of hb1; clear hb1; have HB := Lib.hid (idx_dec hk); clear hk))
  go_ret
  exact ⟨congrArg (fun z => Ending.returned (Value.bool z)) HB.out.symm, (by repeat (first | exact Below.refl _ _ | apply bs_later | apply bs_alloc | apply bs_drew | apply bs_drewN))⟩
end Go.Proofs.Ytffhfpdmfegcpaa.slot
