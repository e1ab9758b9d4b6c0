/- The contract of RingKeeps's under: the nodes of the full slots, sorted. -/
import Derived.Test.YtffhfpdmfegcpaaRingLawsA
import Derived.Test.YtffhfpdmfegcpaaRingStepA
namespace Go.Proofs.Ytffhfpdmfegcpaa.slot
open Go.ChangeShapes Go.WideShapes Go.ChangeAt Go.RowKit
open Go.Proofs.Ytffhfpdmfegcpaa.base Go.Proofs.Ytffhfpdmfegcpaa.flat Go.Proofs.Ytffhfpdmfegcpaa.table Go.Proofs.Ytffhfpdmfegcpaa.addr
set_option linter.unusedVariables false
set_option linter.unusedSimpArgs false

theorem fullL_snoc {xs : List S4} {k : Nat} {x : S4} (hx : xs[k]? = some x) : fullL (xs.take (k + 1)) = fullL (xs.take k) ++ (if x.full = true then [x.by_] else []) := by
  rw [List.take_add_one, hx]
  unfold fullL
  rw [List.filter_append, List.map_append]
  congr 1
  cases h : x.full with
  | true => simp [h]
  | false => simp [h]
theorem fullL_le (ss : List S4) (k : Nat) : (fullL (ss.take k)).length ≤ k := by
  unfold fullL
  rw [List.length_map]
  exact Nat.le_trans (List.length_filter_le _ _) (by rw [List.length_take]; omega)
def RelUd (ss : List S4) (w0 : World) (v i : Value) (wr : World) : Prop :=
  ∃ (k : Nat) (l : Array Obj) (d : Nat), k ≤ ss.length ∧ i = .int .i64 k ∧ wr = w0.later l d ∧ (w0.later l d).ownsRow w0.heap.size 3 1 v (fullL (ss.take k)).length ((fullL (ss.take k)).map (Value.int .i64))
/-- an own row of the sorted nodes -/
def UnderPost (ss : List S4) (w : World) (e : Ending) (w' : World) : Prop :=
  ∃ v, e = .returned v ∧ w'.ownsRow w.heap.size 3 1 v (fullL ss).length ((sortI (fullL ss)).map (Value.int .i64)) ∧ Below w.heap.size w w'
set_option maxHeartbeats 2000000 in
set_option maxRecDepth 100000 in
theorem under1_any (ss : List S4) (a : Option Addr) (n c : Nat) (w : World) (hn : n ≤ 8) (hd : ss.length = n) (h : SlotsAt w a ss) :
    Calls Try.prog 40 #[.slice a n c] w (UnderPost ss w) := by
  have HD := Lib.hid hd
  have HT := Lib.hid h
  clear hd h
  obtain ⟨i0, hi, hz0, hz1, hz2⟩ := info_parts info_intS
  go_enter Try.func40, Try.ntmps40
  go_wp2
  go_loopw [3, 8] (RelUd ss w) (fun _ i _ => n - (intOf i).toNat)
  case atStart => exact ⟨0, #[], _, by omega, rfl, later_zero _, World.ownsRow_nil _ _ _ _⟩
  case round =>
    obtain ⟨k, l, d, hk, rfl, rfl, hown⟩ := hrel
    have HO := Lib.hid (own_any hown)
    by_cases hlt : k < n
    · obtain ⟨x, hx⟩ := get_some (xs := ss) (k := k) (by rw [HD.out]; exact hlt)
      obtain ⟨b, off, rfl⟩ := SlotsAt.form HT.out hx
      obtain ⟨c0, c1, c2, c3⟩ := SlotsAt.at HT.out hx
      have hin : inB w b := lt_of_cell c0
      have HFS := Lib.hid (fullL_snoc hx)
      have hle := fullL_le ss k
      have hJ : k + 1 ≤ ss.length := by rw [HD.out]; exact hlt
      clear hx hown
      obtain ⟨xa, xf, xb, xw⟩ := x
      simp only at c0 c1 c2 c3
      cases xf with
      | false =>
        simp only [Bool.false_eq_true, if_false, List.append_nil] at HFS
        go_wp2
        rw [later_alloc]
        exact ⟨⟨k + 1, _, _, hJ, by go_num, rfl, by rw [HFS.out]; exact own_push (HO.out _) _⟩, by simp [intOf]; omega⟩
      | true =>
        simp only [if_true] at HFS
        go_wp2_with (at_builtin; refine wpList_append_own _ rfl _ _ 24 rfl _ 3 i0 (.int .i64 0) 1 8 Try.underlying24 hi hz0 hz1 hz2 rfl (by decide) _ _ _ rfl (((HO.out _).alloc _).alloc _) ⟨_, 0, none⟩ 1 1 [.int .i64 xb] rfl rfl ?d1 ?d2 ?d3 ?d4 ?d5 ?_)
        try (case d1 => exact one_newI (by simp))
        try (case d2 => first | (intro u hu; simp at hu; subst hu; rfl) | rfl)
        try (case d3 => unfold maxLen; omega)
        try (case d4 => omega)
        try (case d5 => first | omega | (simp; omega))
        intro v' w1 hown2 hgrow hnil
        have hb5 := below_grown (W0 := w) (by repeat (first | exact Below.refl _ _ | apply bs_later | apply bs_alloc | apply bs_drew | apply bs_drewN)) hgrow (fun g' hg' => ((HO.out 0).lt g' hg').1)
        obtain ⟨l5, d5, rfl⟩ := later_of hb5
        have HN := Lib.hid (own_any hown2)
        clear hown2 hgrow hnil hb5
        go_wp2
        exact ⟨⟨k + 1, _, _, hJ, by go_num, rfl, by rw [HFS.out, List.map_append, List.length_append]; exact HN.out _⟩, by simp [intOf]; omega⟩
    · obtain rfl : k = n := by have := HD.out; omega
      have htk : ss.take k = ss := List.take_of_length_le (by rw [HD.out]; exact Nat.le_refl _)
      rw [htk] at HO hown
      have hle := fullL_le ss k
      rw [htk] at hle
      obtain ⟨sa, sc, hv⟩ := own_form hown
      subst hv
      clear hown htk
      go_wp2_with (go_at_call 41; refine (sort_own (by omega) (HO.out _)).mono ?_; rintro e w1 ⟨rfl, hs1, hs2, hs3⟩; have hb5 := hs3 w (Nat.le_refl _) (by repeat (first | exact Below.refl _ _ | apply bs_later | apply bs_alloc | apply bs_drew | apply bs_drewN)); obtain ⟨l5, d5, rfl⟩ := later_of hb5; have HS1 := Lib.hid hs1; clear hs1 hs2 hs3 hb5)
      go_ret
      exact ⟨_, rfl, HS1.out, (by repeat (first | exact Below.refl _ _ | apply bs_later | apply bs_alloc | apply bs_drew | apply bs_drewN))⟩
end Go.Proofs.Ytffhfpdmfegcpaa.slot
