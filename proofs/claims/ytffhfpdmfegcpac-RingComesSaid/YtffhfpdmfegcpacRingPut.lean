/- The contracts of ringdoveref.RingPut and ring.Put. -/
import Derived.Test.YtffhfpdmfegcpacRingCheck
import Derived.Test.YtffhfpdmfegcpacRingFault
import Derived.Test.YtffhfpdmfegcpacSlotRow
namespace Go.Proofs.Ytffhfpdmfegcpac.slot
open Go.ChangeShapes Go.WideShapes Go.ChangeAt Go.RowKit
open Go.Proofs.Ytffhfpdmfegcpac.base Go.Proofs.Ytffhfpdmfegcpac.flat Go.Proofs.Ytffhfpdmfegcpac.table Go.Proofs.Ytffhfpdmfegcpac.addr
set_option linter.unusedVariables false
set_option linter.unusedSimpArgs false

/-- an empty slot at a node -/
def S4.free (x : S4) (node : Int) : Bool := !x.full && decide (x.at_ = node)
/-- the ring behind a put, and whether there was a slot -/
def putL (node wait : Int) : List S4 → List S4
  | [] => []
  | x :: l => if x.free node = true then ⟨node, true, node, wait⟩ :: l else x :: putL node wait l
def putB (node : Int) (xs : List S4) : Bool := xs.any fun x : S4 => x.free node
theorem len_putL (node wait : Int) : ∀ xs, (putL node wait xs).length = xs.length
  | [] => rfl
  | x :: l => by unfold putL; split <;> simp [len_putL node wait l]
theorem putL_at {node wait : Int} : ∀ {xs : List S4} {k : Nat} {x : S4}, (∀ (i : Nat) (y : S4), i < k → xs[i]? = some y → y.free node = false) → xs[k]? = some x → x.free node = true → putL node wait xs = xs.set k ⟨node, true, node, wait⟩ ∧ putB node xs = true
  | [], k, x, h, hx, hf => by simp at hx
  | y :: l, 0, x, h, hx, hf => by
    obtain rfl : y = x := by simpa using hx
    refine ⟨?_, by simp [putB, hf]⟩
    unfold putL; rw [if_pos hf]; rfl
  | y :: l, k + 1, x, h, hx, hf => by
    have h0 := h 0 y (by omega) rfl
    obtain ⟨e1, e2⟩ := putL_at (node := node) (wait := wait) (xs := l) (k := k) (x := x) (fun i z hi hz => h (i + 1) z (by omega) (by simpa using hz)) (by simpa using hx) hf
    refine ⟨?_, ?_⟩
    · unfold putL; rw [if_neg (by rw [h0]; decide), e1]; rfl
    · unfold putB at e2 ⊢; rw [List.any_cons, e2, Bool.or_true]
theorem putL_miss {node wait : Int} : ∀ {xs : List S4}, (∀ (i : Nat) (y : S4), xs[i]? = some y → y.free node = false) → putL node wait xs = xs ∧ putB node xs = false
  | [], h => ⟨rfl, rfl⟩
  | y :: l, h => by
    have h0 := h 0 y rfl
    obtain ⟨e1, e2⟩ := putL_miss (node := node) (wait := wait) (xs := l) (fun i z hz => h (i + 1) z (by simpa using hz))
    refine ⟨?_, ?_⟩
    · unfold putL; rw [if_neg (by rw [h0]; decide), e1]
    · unfold putB at e2 ⊢; rw [List.any_cons, e2, h0]; rfl
/-- a ring and a truth value come back -/
def RetP (xs : List S4) (b : Bool) (w : World) (e : Ending) (w' : World) : Prop :=
  ∃ a c, e = .returned (.tuple #[.slice a xs.length c, .bool b]) ∧ xs.length ≤ c ∧ c ≤ maxLen ∧ SlotsAt w' a xs ∧ Below w.heap.size w w'
theorem own_caps {w : World} {base n c size : Nat} {e : TypeId} {a : Option Addr} {xs : List Value} (h : w.ownsRow base e size (.slice a n c) n xs) : n ≤ c ∧ c ≤ maxLen := by
  rcases h.2 with ⟨h1, h2⟩ | ⟨g, cap, cur, hv, _, _, h3, h4, _⟩
  · cases h1; cases h2; exact ⟨Nat.le_refl _, by unfold maxLen; omega⟩
  · injection hv with _ _ h5; subst h5; exact ⟨h3, h4⟩
theorem own_head {w : World} {base n size : Nat} {e : TypeId} {v : Value} {xs : List Value} (hn : 0 < n) (h : w.ownsRow base e size v n xs) : ∃ g c, v = .slice (some ⟨g, 0, none⟩) n c ∧ base ≤ g := by
  rcases h.2 with ⟨h1, h2⟩ | ⟨g, cap, cur, hv, hb, _⟩
  · omega
  · exact ⟨g, cap, hv, hb⟩
def RelPut (xs : List S4) (p : S4 → Bool) (v : Value) (n : Nat) (w0 : World) (i : Value) (wr : World) : Prop :=
  ∃ (k : Nat) (l : Array Obj) (d : Nat), k ≤ xs.length ∧ i = .int .i64 k ∧ wr = w0.later l d ∧ (w0.later l d).ownsRow w0.heap.size 85 4 v n (cellsS xs) ∧ ∀ (i : Nat) (x : S4), i < k → xs[i]? = some x → p x = false
/-- a whole slot stored into a row of the call's own, cell by cell -/
theorem own_slot {W : World} {l : Array Obj} {d base g n cap : Nat} {e : TypeId} {xs : List S4} (h : (W.later l d).ownsRow base e 4 (.slice (some ⟨g, 0, none⟩) n cap) n (cellsS xs)) (hd : xs.length = n) (hb : W.heap.size ≤ base) (hg : base ≤ g) {k : Nat} {x : S4} (hx : xs[k]? = some x) (y : S4) :
    ∃ l1 d1 l2 d2 l3 d3 l4 d4, (W.later l d).setCell ⟨g, k * 4, none⟩ (.int .i64 y.at_) = W.later l1 d1 ∧ l1.size = l.size ∧ farB W l1 g ∧ (W.later l1 d1).cell? ⟨g, k * 4 + 1, none⟩ = some (.bool x.full) ∧ (W.later l1 d1).frozen? ⟨g, k * 4 + 1, none⟩ = false
      ∧ (W.later l1 d1).setCell ⟨g, k * 4 + 1, none⟩ (.bool y.full) = W.later l2 d2 ∧ l2.size = l.size ∧ farB W l2 g ∧ (W.later l2 d2).cell? ⟨g, k * 4 + 2, none⟩ = some (.int .i64 x.by_) ∧ (W.later l2 d2).frozen? ⟨g, k * 4 + 2, none⟩ = false
      ∧ (W.later l2 d2).setCell ⟨g, k * 4 + 2, none⟩ (.int .i64 y.by_) = W.later l3 d3 ∧ l3.size = l.size ∧ farB W l3 g ∧ (W.later l3 d3).cell? ⟨g, k * 4 + 3, none⟩ = some (.int .i64 x.wait) ∧ (W.later l3 d3).frozen? ⟨g, k * 4 + 3, none⟩ = false
      ∧ (W.later l3 d3).setCell ⟨g, k * 4 + 3, none⟩ (.int .i64 y.wait) = W.later l4 d4 ∧ l4.size = l.size
      ∧ (W.later l4 d4).ownsRow base e 4 (.slice (some ⟨g, 0, none⟩) n cap) n (cellsS (xs.set k y)) := by
  have hk := (List.getElem?_eq_some_iff.1 hx).1
  obtain ⟨xa, xf, xb, xw⟩ := x
  have far : ∀ {l' : Array Obj} {d' : Nat}, (W.later l' d').ownsRow base e 4 (.slice (some ⟨g, 0, none⟩) n cap) n (cellsS xs) ∨ l'.size = l.size → farB W l' g := by
    intro l' d' h'
    have h0 := (own_block h).2
    rcases h' with h' | h'
    · have := (own_block h').2; simpa [farB] using this
    · simp only [size_later] at h0; unfold farB; omega
  obtain ⟨l1, d1, e1, s1, h1⟩ := own_store h hb hg (k * 4) (.int .i64 y.at_)
  rw [show k * 4 = k * 4 + 0 by omega, cellsS_set xs k 0 _ ⟨y.at_, xf, xb, xw⟩ _ hx (by omega) rfl] at h1
  obtain ⟨l2, d2, e2, s2, h2⟩ := own_store h1 hb hg (k * 4 + 1) (.bool y.full)
  rw [cellsS_set (xs.set k ⟨y.at_, xf, xb, xw⟩) k 1 ⟨y.at_, xf, xb, xw⟩ ⟨y.at_, y.full, xb, xw⟩ _ (List.getElem?_set_self hk) (by omega) rfl, List.set_set] at h2
  obtain ⟨l3, d3, e3, s3, h3⟩ := own_store h2 hb hg (k * 4 + 2) (.int .i64 y.by_)
  rw [cellsS_set (xs.set k ⟨y.at_, y.full, xb, xw⟩) k 2 ⟨y.at_, y.full, xb, xw⟩ ⟨y.at_, y.full, y.by_, xw⟩ _ (List.getElem?_set_self hk) (by omega) rfl, List.set_set] at h3
  obtain ⟨l4, d4, e4, s4, h4⟩ := own_store h3 hb hg (k * 4 + 3) (.int .i64 y.wait)
  rw [cellsS_set (xs.set k ⟨y.at_, y.full, y.by_, xw⟩) k 3 ⟨y.at_, y.full, y.by_, xw⟩ ⟨y.at_, y.full, y.by_, y.wait⟩ _ (List.getElem?_set_self hk) (by omega) rfl, List.set_set] at h4
  refine ⟨l1, d1, l2, d2, l3, d3, l4, d4, e1, s1, far (.inr s1) (d' := 0), ?_, h1.frozenAt _, e2, by omega, far (.inr (by omega)) (d' := 0), ?_, h2.frozenAt _, e3, by omega, far (.inr (by omega)) (d' := 0), ?_, h3.frozenAt _, e4, by omega, h4⟩
  · rw [h1.cellAt _ (by omega), cellsS_get _ k 1 _ (List.getElem?_set_self hk) (by omega)]; rfl
  · rw [h2.cellAt _ (by omega), cellsS_get _ k 2 _ (List.getElem?_set_self hk) (by omega)]; rfl
  · rw [h3.cellAt _ (by omega), cellsS_get _ k 3 _ (List.getElem?_set_self hk) (by omega)]; rfl

set_option maxHeartbeats 4000000 in
set_option maxRecDepth 100000 in
theorem refPut_any (node wait : Int) (xs : List S4) (b off n c : Nat) (w : World) (hn : 1 ≤ n ∧ n ≤ 8) (hd : xs.length = n) (h : SlotsAt w (some ⟨b, off, none⟩) xs) :
    Calls Try.prog 35 #[.slice (some ⟨b, off, none⟩) n c, .int .i64 node, .int .i64 wait] w (RetP (putL node wait xs) (putB node xs) w) := by
  obtain ⟨i0, hi, hz0, hz1, hz2⟩ := info_parts info_slot
  have HD := Lib.hid hd
  have HT := Lib.hid (RowsAt_flat h)
  obtain ⟨hn1, hn8⟩ := hn
  clear hd h
  go_enter Try.func35, Try.ntmps35
  go_wp2_with (at_builtin; refine wpList_append_own _ rfl _ _ 74 rfl w.heap.size 85 i0 _ 4 32 Try.underlying74 hi hz0 hz1 hz2 rfl (by decide) _ _ _ rfl (World.ownsRow_nil _ _ _ _) ⟨b, off, none⟩ n c (cellsS xs) rfl ?qc1 ?qc2 ?qc3 ?qc4 ?qc5 ?qc6 ?_)
  case qc1 => rw [len_cellsS, HD.out]
  case qc2 =>
    intro j u hj
    rw [Addr.add_lit]
    exact HT.out j u hj
  case qc3 => exact one_cellS
  case qc4 => unfold maxLen; omega
  case qc5 => omega
  case qc6 => simp
  intro v' w1 hown hgrow hnil
  have hb1 := below_grown (W0 := w) (Below.refl _ _) hgrow (fun k hk => by simp [Value.ownBlock] at hk)
  obtain ⟨l1, d1, rfl⟩ := later_of hb1
  obtain ⟨g, c2, rfl, hg⟩ := own_head (by omega) hown
  have hcap := own_caps hown
  have HO := Lib.hid hown
  clear hown hgrow hb1 hnil
  go_wp2
  go_loopw [15] (RelPut xs (fun x => x.free node) (.slice (some ⟨g, 0, none⟩) n c2) n w) (fun i _ => n - (intOf i).toNat)
  case atStart => exact ⟨0, _, _, by omega, rfl, rfl, HO.out, fun i x hi => by omega⟩
  case round =>
    obtain ⟨k, l, d, hk, rfl, rfl, hown, hall⟩ := hrel
    have hall : ∀ (i : Nat) (x : S4), i < k → xs[i]? = some x → x.free node = false := hall
    have HALL := Lib.hid hall
    have HO := Lib.hid hown
    by_cases hlt : k < n
    · obtain ⟨x, hx⟩ := get_some (xs := xs) (k := k) (by rw [HD.out]; exact hlt)
      have hS := own_slots_n HD.out hown
      obtain ⟨c0, c1, c2', c3⟩ := SlotsAt.at hS hx
      simp only [Nat.zero_add] at c0 c1 c2' c3
      have hf0 := hown.frozenAt (k * 4)
      have hf1 := hown.frozenAt (k * 4 + 1)
      have hf2 := hown.frozenAt (k * 4 + 2)
      have hf3 := hown.frozenAt (k * 4 + 3)
      have HX := Lib.hid hx
      have HJ : Hid (k + 1 ≤ xs.length) := Lib.hid (by rw [HD.out]; exact hlt)
      clear hx hall hown hS
      obtain ⟨xa, xf, xb, xw⟩ := x
      simp only at c0 c1 c2' c3
      have hgf : farB w l g := by have h := (own_block HO.out).2; simpa [farB] using h
      cases xf with
      | true =>
        have HF : Hid ((⟨xa, true, xb, xw⟩ : S4).free node = false) := Lib.hid rfl
        go_wp2
        rw [later_alloc]
        exact ⟨⟨k + 1, _, _, HJ.out, by go_num, rfl, own_push HO.out _, next_not HX.out HALL.out HF.out⟩, by simp [intOf]; omega⟩
      | false =>
        by_cases he : xa = node
        · have he' : (xa == node) = true := by simpa using he
          have HP := Lib.hid (putL_at (wait := wait) HALL.out HX.out (by show (!false && decide (xa = node)) = true; rw [decide_eq_true he]; rfl))
          obtain ⟨l1', d1', l2', d2', l3', d3', l4, d4, e1, s1, g1, k1, f1, e2, s2, g2, k2, f2, e3, s3, g3, k3, f3, e4, s4, h4⟩ := own_slot HO.out HD.out (Nat.le_refl _) hg HX.out ⟨node, true, node, wait⟩
          simp only at e1 k1 e2 k2 e3 k3 e4
          have HO4 := Lib.hid h4
          clear he h4
          go_wp2
          go_ret2
          refine ⟨some ⟨g, 0, none⟩, c2, ?_, ?_, hcap.2, ?_, (by repeat (first | exact Below.refl _ _ | apply bs_later | apply bs_alloc | apply bs_drew | apply bs_drewN))⟩
          · show Ending.returned (.tuple #[.slice (some ⟨g, 0, none⟩) n c2, .bool true]) = _
            rw [len_putL, HP.out.2, HD.out]
          · rw [len_putL, HD.out]; exact hcap.1
          · rw [HP.out.1]; exact own_slots_n (by rw [List.length_set, HD.out]) (HO4.out.alloc _)
        · have he' : (xa == node) = false := by simpa using he
          have HF : Hid ((⟨xa, false, xb, xw⟩ : S4).free node = false) := Lib.hid (by show (!false && decide (xa = node)) = false; rw [decide_eq_false he]; rfl)
          clear he
          go_wp2
          rw [later_alloc]
          exact ⟨⟨k + 1, _, _, HJ.out, by go_num, rfl, own_push HO.out _, next_not HX.out HALL.out HF.out⟩, by simp [intOf]; omega⟩
    · obtain rfl : k = n := by have := HD.out; omega
      have HM := Lib.hid (putL_miss (node := node) (wait := wait) (xs := xs) fun i y hy => hall i y (by rw [← HD.out]; exact (List.getElem?_eq_some_iff.1 hy).1) hy)
      clear hall hown
      go_wp2
      go_ret2
      refine ⟨some ⟨g, 0, none⟩, c2, ?_, ?_, hcap.2, ?_, (by repeat (first | exact Below.refl _ _ | apply bs_later | apply bs_alloc | apply bs_drew | apply bs_drewN))⟩
      · show Ending.returned (.tuple #[.slice (some ⟨g, 0, none⟩) k c2, .bool false]) = _
        rw [HM.out.1, HM.out.2, HD.out]
      · rw [HM.out.1, HD.out]; exact hcap.1
      · rw [HM.out.1]; exact own_slots_n HD.out HO.out
end Go.Proofs.Ytffhfpdmfegcpac.slot
