/- The contract of order.Explain. -/
import Derived.Test.YtffhfpdmfegcpacFrom
import Derived.Test.YtffhfpdmfegcpacExplainLaw
import Derived.Test.YtffhfpdmfegcpacRevOwn
import Derived.WideMake
namespace Go.Proofs.Ytffhfpdmfegcpac.find
open Go.ChangeShapes Go.WideShapes Go.ChangeAt Go.RowKit
open Go.Joins (ownsRow_le)
open Go.Proofs.Ytffhfpdmfegcpac.base Go.Proofs.Ytffhfpdmfegcpac.flat Go.Proofs.Ytffhfpdmfegcpac.same Go.Proofs.Ytffhfpdmfegcpac.table Go.Proofs.Ytffhfpdmfegcpac.bank Go.Proofs.Ytffhfpdmfegcpac.atomic Go.Proofs.Ytffhfpdmfegcpac.memEq Go.Proofs.Ytffhfpdmfegcpac.play Go.Proofs.Ytffhfpdmfegcpac.told Go.Proofs.Ytffhfpdmfegcpac.turn
set_option linter.unusedVariables false
set_option linter.unusedSimpArgs false

def ExplPost (E : Int) (s : Option (List Nat)) (w : World) (e : Ending) (w' : World) : Prop :=
  ∃ v, e = .returned (.tuple #[v, .bool s.isSome, .int .i64 E]) ∧ w'.ownsRow w.heap.size 3 1 v (iL s).length ((iL s).map (Value.int .i64)) ∧ Below w.heap.size w w'
theorem expl_nil {E : Int} {s : Option (List Nat)} {w w' : World} (hs : s = none) (hb : Below w.heap.size w w') : ExplPost E s w (.returned (.tuple #[.slice none 0 0, .bool false, .int .i64 E])) w' := by
  subst hs
  exact ⟨_, rfl, World.ownsRow_nil _ _ _ _, hb⟩
theorem ansL_eq (s : Option (List Nat)) : ansL s = (iL s).reverse.map (Value.int .i64) := by
  simp [ansL, iL, List.map_reverse, List.map_map, Function.comp_def]
theorem below_turn {a w : World} {b : Nat} (h : Below a.heap.size a w) (hb : a.heap.size ≤ b) (o : Obj) : Below a.heap.size a (w.turn b o) :=
  ⟨h.os, h.tape, h.output, by rw [size_turn]; exact h.size, fun k hk => by rw [heap_turn_ne o (by omega)]; exact h.block k hk⟩
theorem heap_new (w : World) (o : Obj) : (w.alloc o).heap[w.heap.size]? = some o := by
  show (w.heap.push o)[w.heap.size]? = some o
  simp
theorem ctx_new {logs : List (List T5)} {la : Option Addr} {lc : Nat} {W : World} (hL : ListsAt ToldsAt W la logs) (t : TypeId) :
    Ctx logs (W.heap.size + 1) W.heap.size la lc ((W.alloc (.map #[] 0)).alloc (.cells #[.slice la logs.length lc, .map (some W.heap.size)] t)) := by
  refine ⟨?_, ?_, ListsAt.below (Q := ToldsAt) (fun hb h => ToldsAt.below h hb) hL (by repeat (first | exact Below.refl _ _ | apply bs_later | apply bs_alloc | apply bs_drew | apply bs_drewN))⟩
  · rw [World.cell?_alloc_at _ _ _ _ (by simp)]; rfl
  · rw [World.cell?_alloc_at _ _ _ _ (by simp)]; rfl
theorem adds_small {n : Nat} (h : n ≤ 12) : 0 + adds n < maxLen := by
  obtain rfl | rfl | rfl | rfl | rfl | rfl | rfl | rfl | rfl | rfl | rfl | rfl | rfl : n = 0 ∨ n = 1 ∨ n = 2 ∨ n = 3 ∨ n = 4 ∨ n = 5 ∨ n = 6 ∨ n = 7 ∨ n = 8 ∨ n = 9 ∨ n = 10 ∨ n = 11 ∨ n = 12 := by omega
  all_goals decide +kernel
theorem iL_small {logs : List (List T5)} {m : List Int} {n : Nat} (h : n ≤ 12) (hl : leftL logs zeros8 = n) (hf : Fit logs zeros8) : (iL (search logs n zeros8 m)).length ≤ 9223372036854775807 := by
  cases hq : search logs n zeros8 m with
  | none => exact Nat.zero_le _
  | some ps =>
    have := ord_len (search_sound hf hl hq)
    simp [iL]
    omega
theorem made_map (w : World) : (Instr.makeMap 98 none).run Try.prog w = .ok (.map (some w.heap.size)) (w.alloc (.map #[] 0)) := by simp [Instr.makeMap]
theorem fold_spot {m : List Int} (hm : m.length = 64) : Array.foldl (fun (cs : Array Value) (x : Value × Nat) => cs.setIfInBounds (8 + x.snd) x.fst) Try.zeroCells105 (memA m).zipIdx 0 64 = spotA zeros8 m := by
  have hz : Try.zeroCells105 = spotA zeros8 zeroXs := by kernel_rfl
  have h := fold_splice 8 (memA m) (spotA zeros8 zeroXs) (by rw [size_memA, hm, spotA_size rfl zeroXs_len]; omega)
  rw [spotA_splice rfl zeroXs_len hm] at h
  rw [hz, ← h]
  congr 1
  simp [size_memA, hm]
def RelE1 (logs : List (List T5)) (w0 : World) (v i : Value) (wr : World) : Prop :=
  ∃ (k : Nat) (l : Array Obj) (d : Nat), k ≤ logs.length ∧ i = .int .i64 k ∧ v = .int .i64 (sumI (logs.take k)) ∧ wr = w0.later l d
def RelE2 (logs : List (List T5)) (w0 : World) (i : Value) (wr : World) : Prop :=
  ∃ (k : Nat) (l : Array Obj) (d : Nat), k ≤ logs.length ∧ i = .int .i64 k ∧ firstT 12 (logs.take k) = 0 ∧ wr = w0.later l d

set_option maxHeartbeats 8000000 in
set_option maxRecDepth 100000 in
theorem explain_any (m : List Int) (hm : m.length = 64) (wm : AllU m) (logs : List (List T5)) (hok : ∀ l ∈ logs, ∀ x ∈ l, x.Ok) (la : Option Addr) (n lc : Nat) (w : World) (hn : logs.length = n) (hmx : n ≤ maxLen) (hL : ListsAt ToldsAt w la logs) :
    Calls Try.prog 9 #[.agg (memA m), .slice la n lc] w (ExplPost (explE logs) (explS m logs) w) := by
  have s1 : (memA m).size = 64 := by rw [size_memA, hm]
  have HLL := Lib.hid hL
  have HN := Lib.hid hn
  have HM := Lib.hid hm
  have HWM := Lib.hid wm
  have HOK := Lib.hid hok
  unfold maxLen at hmx
  clear hL hn hm wm hok
  go_enter Try.func9, Try.ntmps9
  go_wp2
  go_loopw [7, 18] (RelE1 logs (w.alloc (.cells (memA m) 26))) (fun _ i _ => n - (intOf i).toNat)
  case atStart => exact ⟨0, #[], _, Nat.zero_le _, rfl, rfl, later_zero _⟩
  case round =>
    obtain ⟨k, l, d, hk, rfl, rfl, rfl⟩ := hrel
    by_cases hlt : k < n
    · -- A begin
      obtain ⟨lg, hlg⟩ := get_some (xs := logs) (k := k) (by rw [HN.out]; exact hlt)
      obtain ⟨b, off, rfl⟩ := ListsAt.form HLL.out hlg
      obtain ⟨p, pc, e0, q1, q2, q3, q4⟩ := ListsAt.at HLL.out hlg
      have hin : inB w b := table.lt_of_cell e0
      have HJ : Hid (k + 1 ≤ logs.length) := Lib.hid (by rw [HN.out]; exact hlt)
      have HS : Hid (sumI (logs.take (k + 1)) = wrap64 (sumI (logs.take k) + lg.length)) := Lib.hid (by rw [play.take_snoc hlg, sumI_snoc])
      clear hlg hk q3 q4
      generalize sumI (logs.take k) = S at *
      go_wp2
      go_roundw
      case rel => exact ⟨k + 1, _, _, HJ.out, by go_num, by rw [HS.out], rfl⟩
      case measure => simp [intOf]; omega
      -- A end
    · obtain rfl : k = n := by have := HN.out; omega
      have htk : logs.take k = logs := List.take_of_length_le (by rw [HN.out]; exact Nat.le_refl _)
      rw [htk]
      clear htk hk hlt
      obtain ⟨S, hS⟩ : ∃ S, S = sumI logs := ⟨_, rfl⟩
      rw [← hS]
      have HSS := Lib.hid hS
      clear hS
      by_cases h8 : 8 < k
      · -- B begin
        have h8I : (8 : Int) < k := by omega
        have h8B : decide ((8 : Int) < k) = true := by simpa using h8I
        have HE : Hid (explE logs = 2) := Lib.hid (if_pos (.inl (by rw [HN.out]; exact h8)))
        go_wp2
        go_ret3
        rw [HE.out]
        exact expl_nil (if_neg (by rw [HE.out]; decide)) (by repeat (first | exact Below.refl _ _ | apply bs_later | apply bs_alloc | apply bs_drew | apply bs_drewN))
        -- B end
      · have h8I : ¬ (8 : Int) < k := by omega
        have h8B : decide ((8 : Int) < k) = false := by simpa using h8I
        by_cases h12 : 12 < S
        · -- C begin
          have h12B : decide ((12 : Int) < S) = true := by simpa using h12
          have HE : Hid (explE logs = 2) := Lib.hid (if_pos (.inr (by rw [← HSS.out]; exact h12)))
          go_wp2
          go_ret3
          rw [HE.out]
          exact expl_nil (if_neg (by rw [HE.out]; decide)) (by repeat (first | exact Below.refl _ _ | apply bs_later | apply bs_alloc | apply bs_drew | apply bs_drewN))
          -- C end
        · have h12B : decide ((12 : Int) < S) = false := by simpa using h12
          have HEF : Hid (explE logs = firstT 12 logs) := Lib.hid (if_neg (by rw [HN.out, ← HSS.out]; omega))
          go_wp2
          go_loopw [36] (RelE2 logs (w.alloc (.cells (memA m) 26))) (fun i _ => k - (intOf i).toNat)
          case atStart => exact ⟨0, _, _, Nat.zero_le _, rfl, rfl, rfl⟩
          case round =>
            obtain ⟨j, l, d, hj, rfl, h0, rfl⟩ := hrel
            by_cases hlt : j < k
            · obtain ⟨lg, hlg⟩ := get_some (xs := logs) (k := j) (by rw [HN.out]; exact hlt)
              obtain ⟨b, off, hla⟩ := ListsAt.form HLL.out hlg
              subst hla
              obtain ⟨p, pc, e0, q1, q2, q3, q4⟩ := ListsAt.at HLL.out hlg
              have hin : inB w b := table.lt_of_cell e0
              have HJ : Hid (j + 1 ≤ logs.length) := Lib.hid (by rw [HN.out]; exact hlt)
              have PC := fun w h => check_any lg 12 (by decide) p lg.length pc w (by unfold maxLen at q2 ⊢; omega) rfl h
              have HQ := Lib.hid q4
              have HF : Hid (firstT 12 (logs.take (j + 1)) = toldE 12 lg) := Lib.hid (by rw [play.take_snoc hlg, firstT_snoc, if_pos h0])
              have HB : Hid (¬ toldE 12 lg = 0 → explE logs = toldE 12 lg) := Lib.hid fun h => by rw [HEF.out]; exact firstT_at hlg h0 h
              clear hlg hj q3 q4 h0
              generalize toldE 12 lg = E at *
              have HC := Lib.hid PC
              clear PC
              by_cases hE : E = 0
              · -- D begin
                subst hE
                have HF2 := Lib.hid HF.out
                clear HF HB
                go_wp2_with (go_at_call 37; refine (HC.out _ (ToldsAt.below HQ.out (by repeat (first | exact Below.refl _ _ | apply bs_later | apply bs_alloc | apply bs_drew | apply bs_drewN)))).mono ?_; rintro e w1 ⟨rfl, hb1⟩; obtain ⟨l1, d1, rfl⟩ := later_of hb1; clear hb1; rw [later_later])
                go_roundw
                case rel => exact ⟨j + 1, _, _, HJ.out, by go_num, HF2.out, rfl⟩
                case measure => simp [intOf]; omega
                -- D end
              · -- F begin
                have hE1 : (E != 0) = true := by simpa using hE
                have HE : Hid (explE logs = E) := Lib.hid (HB.out hE)
                have HNE := Lib.hid hE
                clear hE HF HB
                go_wp2_with (go_at_call 37; refine (HC.out _ (ToldsAt.below HQ.out (by repeat (first | exact Below.refl _ _ | apply bs_later | apply bs_alloc | apply bs_drew | apply bs_drewN)))).mono ?_; rintro e w1 ⟨rfl, hb1⟩; obtain ⟨l1, d1, rfl⟩ := later_of hb1; clear hb1; rw [later_later])
                go_ret3
                rw [HE.out]
                exact expl_nil (if_neg (by rw [HE.out]; exact HNE.out)) (by repeat (first | exact Below.refl _ _ | apply bs_later | apply bs_alloc | apply bs_drew | apply bs_drewN))
                -- F end
            · obtain rfl : j = k := by have := HN.out; omega
              have htk : logs.take j = logs := List.take_of_length_le (by rw [HN.out]; exact Nat.le_refl _)
              rw [htk] at h0
              have hE0 : explE logs = 0 := by rw [HEF.out]; exact h0
              obtain ⟨h8', hgood, hsum, hs12⟩ := explE_ok hE0
              have hes : explS m logs = search logs (sumN logs) zeros8 m := if_pos hE0
              have HE0 := Lib.hid hE0
              have HES := Lib.hid hes
              have hSn : S = (sumN logs : Int) := by rw [HSS.out, hsum]
              subst hSn
              have HG : Hid (∀ l ∈ logs, l.length ≤ 12 ∧ ∀ x ∈ l, badOf x.d = 0 ∧ x.Ok) := Lib.hid fun l hl => ⟨(hgood l hl).1, fun x hx => ⟨(hgood l hl).2 x hx, HOK.out l hl x hx⟩⟩
              have HLZ : Hid (leftL logs zeros8 = sumN logs) := Lib.hid (left_zeros logs 8)
              have HFZ := Lib.hid (fit_zeros h8')
              have HSZ := Lib.hid (spot_zeros HM.out HWM.out)
              have H8 := Lib.hid h8'
              have H12 := Lib.hid hs12
              have HMK := fun w : World => made_map w
              clear htk h0 hE0 h8' hgood hsum hs12 hes HEF HSS
              -- G begin
              obtain ⟨W, hW⟩ : ∃ W, W = (w.alloc (.cells (memA m) 26)).later l d := ⟨_, rfl⟩
              have hb0 : Below w.heap.size w W := by rw [hW]; exact (by repeat (first | exact Below.refl _ _ | apply bs_later | apply bs_alloc | apply bs_drew | apply bs_drewN))
              have rM : okRow W w.heap.size 64 := by rw [hW]; simp [go_sem, s1]
              have qM : rowOf W w.heap.size = memA m := by rw [hW]; simp [go_sem]
              rw [← hW]
              have HLW := Lib.hid (ListsAt.below (Q := ToldsAt) (fun hb h => ToldsAt.below h hb) HLL.out hb0)
              have HB0 := Lib.hid hb0
              have HQM := Lib.hid qM
              have hinM : inB W w.heap.size := okRow_lt rM
              have hJ := HN.out
              subst hJ
              clear hW hb0 qM hlt hj HLL HN
              go_wp2_with (first
                | ((with_reducible refine at_wp ?_); refine wpList_load_r rfl 26 _ rfl _ rfl 64 _ Try.underlying26 rfl (by kernel_rfl) (by (simp [go_sem, rM, hinM]; done)) ?_; intro C hC; simp [go_sem, hinM, HQM.out] at hC; subst hC)
                | (go_at_call 38; rw [fold_spot HM.out]; refine (from_any logs H8.out HG.out (W.heap.size + 1) W.heap.size la lc (sumN logs) zeros8 m 0 (.map #[] 0) _ HSZ.out HFZ.out HLZ.out (dead_new _) ?g1 ?g2 ?g3 ?g4).mono ?_; (case g1 => exact adds_small H12.out); (case g2 => have := H12.out; omega); (case g3 => exact map_below (heap_new W _) (by repeat (first | exact Below.refl _ _ | apply bs_later | apply bs_alloc | apply bs_drew | apply bs_drewN))); (case g4 => exact ctx_new HLW.out _); rintro e w1 ⟨v, o2, l2, d2, rfl, rfl, hd2, hown⟩; have hb2 : Below W.heap.size W (((((W.alloc (.map #[] 0)).alloc (.cells #[.slice la logs.length lc, .map (some W.heap.size)] 100)).turn W.heap.size o2).later l2 d2)) := bs_later (below_turn (by repeat (first | exact Below.refl _ _ | apply bs_later | apply bs_alloc | apply bs_drew | apply bs_drewN)) (Nat.le_refl _) o2) l2 d2; obtain ⟨l3, d3, h3⟩ := later_of hb2; rw [h3] at hown ⊢; have HO := Lib.hid (ownsRow_le (base' := W.heap.size) hown (by first | (simp; done) | (simp; omega))); clear hd2 hown hb2 h3)
                | (go_at_call 39; refine (rev_own (base := W.heap.size) (zs := (iL (search logs (sumN logs) zeros8 m)).reverse) (n := (iL (search logs (sumN logs) zeros8 m)).length) ?g5 (by have := HO.out; rw [ansL_eq] at this; simpa [iL] using this)).mono ?_; (case g5 => exact iL_small H12.out HLZ.out HFZ.out); rintro e w1 ⟨rfl, hown2, hbw⟩; have HO2 := Lib.hid hown2; have hb4 := hbw W (Nat.le_refl _) (by repeat (first | exact Below.refl _ _ | apply bs_later | apply bs_alloc | apply bs_drew | apply bs_drewN)); obtain ⟨l4, d4, rfl⟩ := later_of hb4; clear hown2 hbw hb4))
              go_ret3
              rw [HE0.out, HES.out]
              refine ⟨v, rfl, ?_, ?_⟩
              · have := HO2.out
                rw [List.reverse_reverse] at this
                exact ownsRow_le this HB0.out.size
              · exact range.below_trans HB0.out (by repeat (first | exact Below.refl _ _ | apply bs_later | apply bs_alloc | apply bs_drew | apply bs_drewN))
              -- G end
end Go.Proofs.Ytffhfpdmfegcpac.find
