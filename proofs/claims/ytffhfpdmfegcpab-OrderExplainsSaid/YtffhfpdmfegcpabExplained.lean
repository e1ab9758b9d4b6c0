/- The contract of ringdoveref.Explained. -/
import Derived.Test.YtffhfpdmfegcpabGo1
import Derived.OwnWalk
import Derived.Laws.EntriesVeiled
import Derived.Deep.DeepCutAuto
import Derived.Deep.CutBlock
namespace Go.Proofs.Ytffhfpdmfegcpab.find
open Go.ChangeShapes Go.WideShapes Go.ChangeAt Go.RowKit
open Go.Joins (ownsRow_le)
open Go.Proofs.Ytffhfpdmfegcpab.base Go.Proofs.Ytffhfpdmfegcpab.flat Go.Proofs.Ytffhfpdmfegcpab.same Go.Proofs.Ytffhfpdmfegcpab.table Go.Proofs.Ytffhfpdmfegcpab.bank Go.Proofs.Ytffhfpdmfegcpab.atomic Go.Proofs.Ytffhfpdmfegcpab.memEq Go.Proofs.Ytffhfpdmfegcpab.play Go.Proofs.Ytffhfpdmfegcpab.told Go.Proofs.Ytffhfpdmfegcpab.turn
set_option linter.unusedVariables false
set_option linter.unusedSimpArgs false

theorem below_turnE {a w : World} {b : Nat} (h : Below a.heap.size a w) (hb : a.heap.size ≤ b) (o : Obj) : Below a.heap.size a (w.turn b o) :=
  ⟨h.os, h.tape, h.output, by rw [size_turn]; exact h.size, fun k hk => by rw [heap_turn_ne o (by omega)]; exact h.block k hk⟩
theorem made_at {w : World} {base g n : Nat} (h : w.ownsRow base 3 1 (.slice (some ⟨g, 0, none⟩) n n) n (madeCells (Value.int .i64 0).cells (n * 1)).toList) : w.heap[g]? = some (AtO (List.replicate n 0)) := by
  rcases h.2 with ⟨h1, _⟩ | ⟨g', cap, cur, hv, hb, hgg, h1, h2, h3, h4⟩
  · cases h1
  · injection hv with h5 h6 h7
    injection h5 with h5
    injection h5 with h5
    subst h5; subst h7
    rw [hgg]
    congr 1
    unfold AtO
    congr 1
    apply Array.ext'
    have e1 : cur.toList = (madeCells (Value.int .i64 0).cells (n * 1)).toList := by
      rw [← h4, List.take_of_length_le (by simp [h3])]
    rw [e1]
    apply List.ext_getElem?
    intro j
    rw [Nat.mul_one]
    by_cases hj : j < n
    · simp [madeCells, atL, hj, Nat.mod_one, Value.cells]
    · simp [madeCells, atL, hj]
theorem gctx_new {logs : List (List T5)} {la : Option Addr} {lc lb g n : Nat} {w W1 : World} (hL : ListsAt ToldsAt w la logs) (hb : Below w.heap.size w W1) (hg : w.heap.size ≤ g) (hin : inB W1 g) (hc : W1.cell? ⟨lb, 0, none⟩ = some (.slice la logs.length lc)) (hne : lb ≠ g) (t t' : TypeId) :
    GCtx logs la lc lb W1.heap.size (W1.heap.size + 1) g n ((W1.alloc (.cells #[.slice (some ⟨g, 0, none⟩) n n] t)).alloc (.cells #[.func (.func 83) #[] #[.pointer (some ⟨lb, 0, none⟩), .pointer (some ⟨W1.heap.size, 0, none⟩), .pointer (some ⟨W1.heap.size + 1, 0, none⟩)]] t')) := fun o => by
  have hlb : inB (W1.turn g o) lb := (inB_turn o).2 (table.lt_of_cell hc)
  rw [turn_alloc _ _ ((inB_alloc _).2 (.inr hin)), turn_alloc _ _ hin]
  refine ⟨?_, ?_, ?_, ?_⟩
  · rw [World.cell?_alloc_past _ _ _ (by unfold inB at hlb; simp at hlb ⊢; omega), World.cell?_alloc_past _ _ _ hlb, cell_turn o hne]; exact hc
  · rw [World.cell?_alloc_past _ _ _ (by simp), World.cell?_alloc_at _ _ _ _ (by simp)]; rfl
  · rw [World.cell?_alloc_at _ _ _ _ (by simp)]; rfl
  · exact ListsAt.below (Q := ToldsAt) (fun hb h => ToldsAt.below h hb) hL (bs_alloc (bs_alloc (below_turnE hb hg o) _) _)
def RelD (logs : List (List T5)) (w0 : World) (v i : Value) (wr : World) : Prop :=
  ∃ (k : Nat), k ≤ logs.length ∧ i = .int .i64 k ∧ v = .int .i64 (sumI (logs.take k)) ∧ wr = w0

set_option maxHeartbeats 4000000 in
set_option maxRecDepth 100000 in
theorem explained_any (m : List Int) (hm : m.length = 64) (logs : List (List T5)) (h8 : logs.length ≤ 8) (hgood : ∀ l ∈ logs, l.length ≤ 12 ∧ ∀ x ∈ l, badOf x.d = 0 ∧ x.Ok) (hsum : sumI logs = (sumN logs : Int)) (h12 : sumN logs ≤ 12) (la : Option Addr) (lc : Nat) (w : World) (hL : ListsAt ToldsAt w la logs) :
    Calls Try.prog 57 #[.agg (memA m), .slice la logs.length lc] w (GoPost (search logs (sumN logs) (List.replicate logs.length 0) m) w) := by
  have s1 : (memA m).size = 64 := by rw [size_memA, hm]
  have HLL := Lib.hid hL
  have HM := Lib.hid hm
  have HG := Lib.hid hgood
  have HSUM := Lib.hid hsum
  have H12 := Lib.hid h12
  have H8 := Lib.hid h8
  have h8I : (logs.length : Int) ≤ 8 := by omega
  have HLZ : Hid (leftL logs (List.replicate logs.length 0) = sumN logs) := Lib.hid (left_zeros logs _)
  have HFZ : Hid (Fit logs (List.replicate logs.length 0)) := Lib.hid fun k l hl => ⟨0, by rw [List.getElem?_replicate, if_pos (List.getElem?_eq_some_iff.1 hl).1], Nat.zero_le _⟩
  clear hL hm hgood hsum h12
  go_enter Try.func57, Try.ntmps57
  go_upto_region 1 with (fail)
  obtain ⟨i0, hi, hz0, hz1, hz2⟩ := info_parts info_intF
  refine wp_region_lit ?_
  go_wp2_with (at_make; refine wpList_make_full _ rfl _ _ 35 rfl (w.heap.size + 1 + 1) 3 i0 _ 1 Try.underlying35 hi hz0 hz1 .i64 .i64 _ _ logs.length rfl rfl rfl rfl (by rw [hz2]; omega) (by unfold maxLen; omega) (by first | (simp; done) | (simp; omega)) ?_; intro w2 hown2 hgrow2; have hb2 := below_grown (W0 := (w.alloc (.cells (memA m) 26)).alloc (.cells #[.slice la logs.length lc] 48)) (Below.refl _ _) hgrow2 (fun k hk => by cases hk); have HO2 := Lib.hid hown2; obtain ⟨l2, d2, rfl⟩ := later_of hb2; clear hown2 hgrow2 hb2)
  -- A begin
  obtain ⟨W1, hW⟩ : ∃ W1, W1 = ((w.alloc (.cells (memA m) 26)).alloc (.cells #[.slice la logs.length lc] 48)).later l2 d2 := ⟨_, rfl⟩
  have hb0 : Below w.heap.size w W1 := by rw [hW]; exact (by repeat (first | exact Below.refl _ _ | apply bs_later | apply bs_alloc | apply bs_drew | apply bs_drewN))
  have rM : okRow W1 w.heap.size 64 := by rw [hW]; simp [go_sem, s1]
  have qM : rowOf W1 w.heap.size = memA m := by rw [hW]; simp [go_sem]
  have d0 : W1.cell? ⟨w.heap.size + 1, 0, none⟩ = some (.slice la logs.length lc) := by rw [hW]; go_simp
  have hsz : w.heap.size + 1 + 1 + l2.size = W1.heap.size := by rw [hW]; simp
  have hO := HO2.out
  rw [← hW] at hO
  have hat : W1.heap[w.heap.size + 1 + 1]? = some (AtO (List.replicate logs.length 0)) := by
    have := made_at hO
    simpa using this
  rw [← hW, hsz]
  have hing : inB W1 (w.heap.size + 1 + 1) := (Array.getElem?_eq_some_iff.1 hat).1
  have HGC := Lib.hid (fun t t' => gctx_new (n := logs.length) HLL.out hb0 (by omega) hing d0 (by omega) t t')
  have HLW := Lib.hid (ListsAt.below (Q := ToldsAt) (fun hb h => ToldsAt.below h hb) HLL.out hb0)
  have HAT := Lib.hid hat
  have HB0 := Lib.hid hb0
  have HQM := Lib.hid qM
  have hinM : inB W1 w.heap.size := okRow_lt rM
  have hin1 : inB W1 (w.heap.size + 1) := table.lt_of_cell d0
  clear hW hb0 qM hO hat hi hz0 hz1 hz2 i0 HO2
  clear hsz
  go_loopw [7, 16] (RelD logs (W1.alloc (.cells #[.slice (some ⟨w.heap.size + 1 + 1, 0, none⟩) logs.length logs.length] 35))) (fun _ i _ => logs.length - (intOf i).toNat)
  case atStart => exact ⟨0, Nat.zero_le _, rfl, rfl, rfl⟩
  case round =>
    obtain ⟨k, hk, rfl, rfl, rfl⟩ := hrel
    by_cases hlt : k < logs.length
    · obtain ⟨lg, hlg⟩ := get_some hlt
      obtain ⟨b, off, hla⟩ := ListsAt.form HLW.out hlg
      subst hla
      obtain ⟨p, pc, e0, q1, q2, q3, q4⟩ := ListsAt.at HLW.out hlg
      have hinb : inB W1 b := table.lt_of_cell e0
      have HJ : Hid (k + 1 ≤ logs.length) := Lib.hid hlt
      have HS : Hid (sumI (logs.take (k + 1)) = wrap64 (sumI (logs.take k) + lg.length)) := Lib.hid (by rw [play.take_snoc hlg, sumI_snoc])
      have hkI : (k : Int) < logs.length := by omega
      clear hlg hk q3 q4
      generalize sumI (logs.take k) = S at *
      go_wp2
      go_roundw
      case rel => exact ⟨k + 1, HJ.out, by go_num, by rw [HS.out], rfl⟩
      case measure => simp [intOf]; omega
    · obtain rfl : k = logs.length := by omega
      have htk : logs.take logs.length = logs := List.take_of_length_le (Nat.le_refl _)
      rw [htk, HSUM.out]
      clear htk hk hlt HSUM
      -- B begin
      go_wp2_with (first
        | ((with_reducible refine at_wp ?_); refine wpList_load_r rfl 26 _ rfl _ rfl 64 _ Try.underlying26 rfl (by kernel_rfl) (by (simp [go_sem, rM, hinM]; done)) ?_; intro C hC; simp [go_sem, hinM, HQM.out] at hC; subst hC)
        | (go_at_call 83; refine (go1_any logs H8.out HG.out la lc _ _ _ (w.heap.size + 1 + 1) (sumN logs) (List.replicate logs.length 0) m _ HM.out (List.length_replicate ..) HFZ.out HLZ.out ?g1 ?g2 ?g3).mono ?_; (case g1 => have := H12.out; omega); (case g2 => exact map_below HAT.out (by repeat (first | exact Below.refl _ _ | apply bs_later | apply bs_alloc | apply bs_drew | apply bs_drewN))); (case g3 => exact HGC.out _ _); rintro e w1 ⟨v, rfl, hown, hb1⟩; obtain ⟨l3, d3, rfl⟩ := later_of hb1; have HO := Lib.hid hown; clear hb1 hown))
      go_ret2
      refine ⟨v, rfl, ownsRow_le HO.out (by have := HB0.out.size; first | (simp; done) | (simp; omega)), range.below_trans HB0.out (by repeat (first | exact Below.refl _ _ | apply bs_later | apply bs_alloc | apply bs_drew | apply bs_drewN))⟩
      -- B end
  -- A end
end Go.Proofs.Ytffhfpdmfegcpab.find
