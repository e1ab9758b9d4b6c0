/- The contract of atomic.Play where no deed is wrong. -/
import Derived.Test.YtffhfpdmfegcpacPlay
import Derived.Test.YtffhfpdmfegcpacBankSame
namespace Go.Proofs.Ytffhfpdmfegcpac.play
open Go.ChangeShapes Go.WideShapes Go.ChangeAt Go.RowKit
open Go.Joins (ownsRow_le)
open Go.Proofs.Ytffhfpdmfegcpac.base Go.Proofs.Ytffhfpdmfegcpac.flat Go.Proofs.Ytffhfpdmfegcpac.same Go.Proofs.Ytffhfpdmfegcpac.addr Go.Proofs.Ytffhfpdmfegcpac.bank Go.Proofs.Ytffhfpdmfegcpac.bankSame Go.Proofs.Ytffhfpdmfegcpac.atomic Go.Proofs.Ytffhfpdmfegcpac.table
set_option linter.unusedVariables false
set_option linter.unusedSimpArgs false

theorem info_u64 : (Try.prog.info? 22).map (fun i => (i.zero, i.size, i.bytes)) = some (some (.int .u64 0), 1, 8) := by kernel_rfl

/-- a memory, a slice of uint64 of the call's own and OK come back -/
def RetPlay (ys vs : List Int) (w : World) (e : Ending) (w' : World) : Prop :=
  ∃ v, e = .returned (.tuple #[.agg (memA ys), v, .int .i64 0]) ∧ w'.ownsRow w.heap.size 22 1 v vs.length (vs.map (Value.int .u64)) ∧ Below w.heap.size w w'

def Rel2 (xs : List Int) (ds : List D4) (w : World) (v i : Value) (wr : World) : Prop :=
  ∃ (k : Nat) (l : Array Obj) (d : Nat), k ≤ ds.length ∧ i = .int .i64 k ∧ wr = ((w.alloc (.cells (memA (playM xs (ds.take k))) 26)).alloc (.cells (memA zeroXs) 26)).later l d ∧
    wr.ownsRow (w.heap.size + 2) 22 1 v k ((playV xs (ds.take k)).map (Value.int .u64))

set_option maxHeartbeats 4000000 in
set_option maxRecDepth 100000 in
theorem play_ok (xs : List Int) (hl : xs.length = 64) (ds : List D4) (a : Option Addr) (n c : Nat) (w : World) (hn : n ≤ 200) (hd : ds.length = n) (h : DeedsAt w a ds) (hb : firstBad ds = 0) :
    Calls Try.prog 11 #[.agg (memA xs), .slice a n c] w (RetPlay (playM xs ds) (playV xs ds) w) := by
  have hn' : (n : Int) ≤ 200 := by omega
  obtain ⟨i0, hi, hz0, hz1, hz2⟩ := info_parts info_u64
  go_enter Try.func11, Try.ntmps11
  go_wp2
  rw [zero_is]
  go_loopw [20] (Rel1 xs ds ((w.alloc (.cells (memA xs) 26)).alloc (.cells (memA zeroXs) 26))) (fun i _ => n - (intOf i).toNat)
  case atStart => exact ⟨0, #[], _, by omega, rfl, later_zero _, rfl⟩
  case round =>
    obtain ⟨k, l, d, hk, rfl, rfl, h0⟩ := hrel
    by_cases hlt : k < n
    · obtain ⟨x, hx⟩ := get_some (xs := ds) (k := k) (by omega)
      rcases h with h | ⟨b, off, rfl, hA⟩
      · obtain rfl : ds = [] := by simpa using h
        cases hx
      obtain ⟨c0, c1, c2, c3⟩ := DeedsAt.at (.inr ⟨b, off, rfl, hA⟩) hx
      have hin := inB_cell c0
      have hbad : badOf x = 0 := firstBad_mem hb x (List.mem_of_getElem? hx)
      have HA := Lib.hid hA
      have HX := Lib.hid hx
      have H0 := Lib.hid h0
      have HB := Lib.hid hb
      clear hA hx h0 hb
      obtain ⟨xn, xk, xa, xv⟩ := x
      simp only at c0 c1 c2 c3
      simp only [badOf] at hbad
      go_wp2_with (first
        | (go_at_call 41; refine (right_any _ _ _ _ _).mono ?_; rintro e w1 ⟨rfl, hb1⟩; obtain ⟨l1, d1, rfl⟩ := later_of hb1; clear hb1))
      rw [later_alloc, later_later]
      go_roundw
      case rel => exact ⟨k + 1, _, _, by omega, by go_num, rfl, by rw [take_snoc HX.out, firstBad_snoc, if_pos H0.out]; exact hbad⟩
      case measure => simp [intOf]; omega
    · obtain rfl : k = n := by omega
      have HB := Lib.hid hb
      have H0 := Lib.hid h0
      clear hb h0
      go_wp2
      go_loopw [10, 33] (Rel2 xs ds w) (fun _ i _ => k - (intOf i).toNat)
      case atStart => exact ⟨0, _, _, by omega, rfl, rfl, World.ownsRow_nil _ _ _ _⟩
      case round =>
        clear l d
        obtain ⟨j, l, d, hj, rfl, rfl, hown⟩ := hrel
        by_cases hlt : j < k
        · obtain ⟨x, hx⟩ := get_some (xs := ds) (k := j) (by omega)
          rcases h with h | ⟨b, off, rfl, hA⟩
          · obtain rfl : ds = [] := by simpa using h
            cases hx
          obtain ⟨c0, c1, c2, c3⟩ := DeedsAt.at (.inr ⟨b, off, rfl, hA⟩) hx
          have hin := inB_cell c0
          have hbad := right_pos (firstBad_mem HB.out x (List.mem_of_getElem? hx))
          have HX := Lib.hid hx
          have HA := Lib.hid hA
          have s0 : (memA (playM xs (ds.take j))).size = 64 := by rw [size_memA, playM_len, hl]
          have P := fun w => do_ok (playM xs (ds.take j)) (by rw [playM_len, hl]) x.n x.k x.a x.v w hbad.2.1 hbad.2.2.1.1 hbad.2.2.1.2
          have s1 : (memA (plainM (playM xs (ds.take j)) x.k x.a x.v)).size = 64 := by rw [size_memA, plainM_len, playM_len, hl]
          have eM : playM xs (ds.take (j + 1)) = plainM (playM xs (ds.take j)) x.k x.a x.v := by rw [take_snoc hx, playM_snoc]
          have eV : playV xs (ds.take (j + 1)) = playV xs (ds.take j) ++ [plainV (playM xs (ds.take j)) x.k x.a] := by rw [take_snoc hx, playV_snoc]
          obtain ⟨xn, xk, xa, xv⟩ := x
          simp only at c0 c1 c2 c3 eM eV P s1
          generalize plainM (playM xs (ds.take j)) xk xa xv = zs at *
          generalize plainV (playM xs (ds.take j)) xk xa = z at *
          generalize hys : playM xs (ds.take j) = ys at *
          obtain ⟨sa, sc, hv⟩ := own_form hown
          subst hv
          have HO := Lib.hid hown
          have HP := Lib.hid P
          have HM := Lib.hid eM
          have HV := Lib.hid eV
          clear hown P eM eV hA hx hbad
          go_wp2_with (first
            | (at_builtin; refine wpList_append_own _ rfl _ _ 42 rfl (w.heap.size + 2) 22 i0 (.int .u64 0) 1 8 Try.underlying42 hi hz0 hz1 hz2 rfl (by decide) _ _ _ rfl ((own_later ((own_swap (W1 := (w.alloc (.cells (memA zs) 26)).alloc (.cells (memA zeroXs) 26)) (d' := d) HO.out (by simp) (by simp)).alloc _)).alloc _) _ 1 1 [.int .u64 z] rfl rfl ?c1 ?c2 ?c3 ?c4 ?c5 ?_)
            | (refine wpList_load_r rfl 26 _ rfl _ rfl 64 _ Try.underlying26 rfl (by kernel_rfl) (by (simp [go_sem, s0, s1]; done)) ?_; intro C hC; simp [go_sem] at hC; subst hC)
            | (refine wpList_store_r rfl 26 _ _ rfl _ rfl _ rfl 64 (by kernel_rfl) (by (simp [go_sem, s0, s1]; done)) (by (simp [s0, s1]; done)) (memA_one _) ?_; intro W hW; simp [go_sem] at hW; subst hW)
            | (go_at_call 42; refine (HP.out _).mono ?_; rintro e w1 ⟨rfl, hb1⟩; obtain ⟨l1, d1, rfl⟩ := later_of hb1; clear hb1))
          case c1 => exact one_new (by simp)
          case c2 => intro u hu; simp at hu; subst hu; rfl
          case c3 => unfold maxLen; omega
          case c4 => omega
          case c5 => simp; omega
          intro v' w1 hown' hgrow _
          have hb : Below ((w.alloc (.cells (memA zs) 26)).alloc (.cells (memA zeroXs) 26)).heap.size ((w.alloc (.cells (memA zs) 26)).alloc (.cells (memA zeroXs) 26)) w1 :=
            below_grown (by repeat (first | exact Below.refl _ _ | apply bs_later | apply bs_alloc | apply bs_drew | apply bs_drewN)) hgrow (fun g hg => by have := (HO.out.lt g hg).1; simp; omega)
          obtain ⟨l3, d3, rfl⟩ := later_of hb
          have HO' := Lib.hid hown'
          clear hb hgrow hown'
          go_wp2
          go_roundw
          case rel => exact ⟨j + 1, _, _, by omega, by go_num, by rw [HM.out], by rw [HV.out, List.map_append]; exact HO'.out⟩
          case measure => simp [intOf]; omega
        · obtain rfl : j = k := by omega
          have hT : ds.take j = ds := List.take_of_length_le (by omega)
          rw [hT] at hown ⊢
          have s0 : (memA (playM xs ds)).size = 64 := by rw [size_memA, playM_len, hl]
          have hVl : (playV xs ds).length = j := by rw [playV_len, hd]
          generalize playM xs ds = ys at *
          generalize playV xs ds = vs at *
          have HO := Lib.hid hown
          have HL := Lib.hid hVl
          clear hown hVl
          go_wp2_with (first
            | (refine wpList_load_r rfl 26 _ rfl _ rfl 64 _ Try.underlying26 rfl (by kernel_rfl) (by (simp [go_sem, s0, zero_size]; done)) ?_; intro C hC; simp [go_sem] at hC; subst hC)
            | (refine wpList_store_r rfl 26 _ _ rfl _ rfl _ rfl 64 (by kernel_rfl) (by (simp [go_sem, s0, size_memA, zeroXs_len]; done)) (by (simp [s0]; done)) (memA_one _) ?_; intro W hW; simp [go_sem] at hW; subst hW))
          refine bodyPost_ret (results_row_tmp2 rfl _ _ _ 64 _ rfl Try.underlying26 rfl (by kernel_rfl) (by simp [go_sem, s0]; done) (memA ys) ?_ _ _ rfl rfl) rfl ⟨_, rfl, ?_, ?_⟩
          · simp [go_sem]
          · rw [HL.out]
            exact ownsRow_le (own_swap HO.out (by simp) (by simp)) (by omega)
          · repeat (first | exact Below.refl _ _ | apply bs_later | apply bs_alloc | apply bs_drew | apply bs_drewN)
end Go.Proofs.Ytffhfpdmfegcpac.play
