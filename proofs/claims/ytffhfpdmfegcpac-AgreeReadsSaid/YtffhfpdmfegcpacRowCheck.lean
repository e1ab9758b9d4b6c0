/- The contracts of row.right and row.Check. -/
import Derived.Test.YtffhfpdmfegcpacWayFind
import Derived.Test.YtffhfpdmfegcpacState
import Derived.Test.YtffhfpdmfegcpacPlruC
import Derived.Test.YtffhfpdmfegcpacSame
import Derived.StillTailTactics
namespace Go.Proofs.Ytffhfpdmfegcpac.ways
open Go.ChangeShapes Go.WideShapes Go.ChangeAt Go.RowKit
open Go.Proofs.Ytffhfpdmfegcpac.base Go.Proofs.Ytffhfpdmfegcpac.flat Go.Proofs.Ytffhfpdmfegcpac.table Go.Proofs.Ytffhfpdmfegcpac.prog Go.Proofs.Ytffhfpdmfegcpac.same
set_option linter.unusedVariables false
set_option linter.unusedSimpArgs false

/-- the fault of a way -/
def wayE (x : W6) : Int := if (0 ≤ x.s ∧ x.s ≤ 4) ∧ 0 ≤ x.l ∧ x.l ≤ 15 then 0 else 4
theorem wayE_ok {x : W6} (h : (0 ≤ x.s ∧ x.s ≤ 4) ∧ 0 ≤ x.l ∧ x.l ≤ 15) : wayE x = 0 := if_pos h
theorem wayE_bad {x : W6} (h : ¬ ((0 ≤ x.s ∧ x.s ≤ 4) ∧ 0 ≤ x.l ∧ x.l ≤ 15)) : wayE x = 4 := if_neg h
theorem name_out (s : Int) (h : ¬ (0 ≤ s ∧ s ≤ 4)) (w : World) : Calls Try.prog 43 #[.int .i64 s] w fun e w' => e = .returned (.string ⟨#[]⟩) ∧ w = w' := by
  have e := state.stB_no h
  clear h
  go_enter Try.func43, Try.ntmps43
  go_wp2_with (go_at_call 44; refine (state.is_any _ _).mono ?_; rintro e w1 ⟨rfl, rfl⟩)
  go_ret
  exact ⟨rfl, rfl⟩
set_option maxHeartbeats 1000000 in
set_option maxRecDepth 100000 in
theorem right_any (x : W6) (w : World) : Calls Try.prog 94 #[.agg #[.int .i64 x.s, .int .i64 x.l, .int .u64 x.a, .int .u64 x.b, .int .u64 x.c, .int .u64 x.d]] w (Ret (.int .i64 (wayE x)) w) := by
  obtain ⟨xs, xl, xa, xb, xc, xd⟩ := x
  by_cases hs : 0 ≤ xs ∧ xs ≤ 4
  · by_cases hl : 0 ≤ xl ∧ xl ≤ 15
    · rw [wayE_ok (x := ⟨xs, xl, xa, xb, xc, xd⟩) ⟨hs, hl⟩]
      have h1 : ¬ xl < 0 := by omega
      have h2 : ¬ 16 ≤ xl := by omega
      obtain rfl | rfl | rfl | rfl | rfl : xs = 0 ∨ xs = 1 ∨ xs = 2 ∨ xs = 3 ∨ xs = 4 := by omega
      all_goals
        clear hs hl
        go_enter Try.func94, Try.ntmps94
        go_wp2_with (go_at_call 43; (first | (with_reducible refine (state.name_0 _).mono ?_) | (with_reducible refine (state.name_1 _).mono ?_) | (with_reducible refine (state.name_2 _).mono ?_) | (with_reducible refine (state.name_3 _).mono ?_) | (with_reducible refine (state.name_4 _).mono ?_)); rintro e w1 ⟨rfl, rfl⟩)
        go_ret
        exact ⟨rfl, (by repeat (first | exact Below.refl _ _ | apply bs_later | apply bs_alloc | apply bs_drew | apply bs_drewN))⟩
    · rw [wayE_bad (x := ⟨xs, xl, xa, xb, xc, xd⟩) (fun h => hl h.2)]
      by_cases h1 : xl < 0
      · obtain rfl | rfl | rfl | rfl | rfl : xs = 0 ∨ xs = 1 ∨ xs = 2 ∨ xs = 3 ∨ xs = 4 := by omega
        all_goals
          clear hs hl
          go_enter Try.func94, Try.ntmps94
          go_wp2_with (go_at_call 43; (first | (with_reducible refine (state.name_0 _).mono ?_) | (with_reducible refine (state.name_1 _).mono ?_) | (with_reducible refine (state.name_2 _).mono ?_) | (with_reducible refine (state.name_3 _).mono ?_) | (with_reducible refine (state.name_4 _).mono ?_)); rintro e w1 ⟨rfl, rfl⟩)
          go_ret
          exact ⟨rfl, (by repeat (first | exact Below.refl _ _ | apply bs_later | apply bs_alloc | apply bs_drew | apply bs_drewN))⟩
      · have h2 : 16 ≤ xl := by omega
        obtain rfl | rfl | rfl | rfl | rfl : xs = 0 ∨ xs = 1 ∨ xs = 2 ∨ xs = 3 ∨ xs = 4 := by omega
        all_goals
          clear hs hl
          go_enter Try.func94, Try.ntmps94
          go_wp2_with (go_at_call 43; (first | (with_reducible refine (state.name_0 _).mono ?_) | (with_reducible refine (state.name_1 _).mono ?_) | (with_reducible refine (state.name_2 _).mono ?_) | (with_reducible refine (state.name_3 _).mono ?_) | (with_reducible refine (state.name_4 _).mono ?_)); rintro e w1 ⟨rfl, rfl⟩)
          go_ret
          exact ⟨rfl, (by repeat (first | exact Below.refl _ _ | apply bs_later | apply bs_alloc | apply bs_drew | apply bs_drewN))⟩
  · rw [wayE_bad (x := ⟨xs, xl, xa, xb, xc, xd⟩) (fun h => hs h.1)]
    have HN := Lib.hid (fun w => name_out xs hs w)
    clear hs
    go_enter Try.func94, Try.ntmps94
    go_wp2_with (go_at_call 43; refine (HN.out _).mono ?_; rintro e w1 ⟨rfl, rfl⟩)
    go_ret
    exact ⟨rfl, (by repeat (first | exact Below.refl _ _ | apply bs_later | apply bs_alloc | apply bs_drew | apply bs_drewN))⟩

def zeroW : W6 := ⟨0, 0, 0, 0, 0, 0⟩
theorem W6.cells_inj {x y : W6} (h : x.cells = y.cells) : x = y := by
  obtain ⟨a, b, c, d, e, f⟩ := x
  obtain ⟨a', b', c', d', e', f'⟩ := y
  simp only [W6.cells, List.cons.injEq, Value.int.injEq, true_and, and_true] at h
  obtain ⟨h1, h2, h3, h4, h5, h6⟩ := h
  subst h1 h2 h3 h4 h5 h6
  rfl
theorem W6.allW {x : W6} (h : x.Ok) : AllW [.int .i64, .int .i64, .int .u64, .int .u64, .int .u64, .int .u64] x.cells :=
  ⟨⟨_, rfl, h.1⟩, ⟨_, rfl, h.2.1⟩, ⟨_, rfl, h.2.2.1⟩, ⟨_, rfl, h.2.2.2.1⟩, ⟨_, rfl, h.2.2.2.2.1⟩, ⟨_, rfl, h.2.2.2.2.2⟩, trivial⟩
theorem run_eq_way (w : World) {x y : W6} (hx : x.Ok) (hy : y.Ok) : (Op.equalIn 10000 65 (.agg x.cells.toArray) (.agg y.cells.toArray)).run Try.prog w = .ok (eqv x.cells y.cells) w :=
  run_equalIn_flat w 4 _ [.int .i64, .int .i64, .int .u64, .int .u64, .int .u64, .int .u64] (by kernel_rfl) (by kernel_rfl) (by kernel_rfl) (by omega) (.inl ⟨_, Try.underlying65⟩) _ _ (W6.allW hx) (W6.allW hy)
theorem zeroW_ok : zeroW.Ok := by refine ⟨?_, ?_, ?_, ?_, ?_, ?_⟩ <;> decide
theorem run_way_zero {x : W6} (hx : x.Ok) (b : Bool) (hb : b = true ↔ x = zeroW) : ∀ w, (Op.equalIn 10000 65 (.agg #[.int .i64 x.s, .int .i64 x.l, .int .u64 x.a, .int .u64 x.b, .int .u64 x.c, .int .u64 x.d]) (.agg #[.int .i64 0, .int .i64 0, .int .u64 0, .int .u64 0, .int .u64 0, .int .u64 0])).run Try.prog w = .ok b w := fun w => by
  have h := run_eq_way w hx zeroW_ok
  have e : eqv x.cells zeroW.cells = b := by
    rw [Bool.eq_iff_iff, eqv_iff, hb]
    exact ⟨fun h => W6.cells_inj h, fun h => by rw [h]⟩
  rw [e] at h
  exact h

/-- the fault of way i of a row -/
noncomputable def wayF (ws : List W6) (i : Nat) (x : W6) : Int := if wayE x = 0 then (if x.s = 0 then (@ite _ (x = zeroW) (Classical.propDecidable _) 0 3) else if 0 ≤ findW x.l (ws.take i) then 6 else 0) else 4
/-- the fault of a row -/
noncomputable def rowE (r : R4) (n : Int) : Int := if plru.plruE r.x r.y r.z n = 0 then (if (r.ways.length : Int) = n then fnz (wayF r.ways) 0 r.ways else 3) else plru.plruE r.x r.y r.z n
theorem plruE_01 (a b c : Bool) (n : Int) (h : plru.plruE a b c n = 0) : 1 ≤ n ∧ n ≤ 4 := by
  unfold plru.plruE at h
  split at h
  · cases h
  · omega

set_option maxHeartbeats 4000000 in
set_option maxRecDepth 100000 in
theorem rowCheck_ok (r : R4) (hr : r.Ok) (n : Int) (p : Option Addr) (c : Nat) (w : World) (hl : (r.ways.length : Int) = n) (hc : r.ways.length ≤ c) (hc2 : c ≤ maxLen) (hW : WaysAt w p r.ways) (hE : plru.plruE r.x r.y r.z n = 0) :
    Calls Try.prog 78 #[.agg #[.slice p r.ways.length c, .bool r.x, .bool r.y, .bool r.z], .int .i64 n] w (Ret (.int .i64 (fnz (wayF r.ways) 0 r.ways)) w) := by
  obtain ⟨h1, h4⟩ := plruE_01 _ _ _ _ hE
  have PP := fun w => plru.check_any r.x r.y r.z n w
  rw [hE] at PP
  have HP := Lib.hid PP
  obtain ⟨ws, x, y, z⟩ := r
  simp only at hl hc hW HP hr ⊢
  subst hl
  obtain ⟨m, hm⟩ : ∃ m, ws.length = m := ⟨_, rfl⟩
  have HM := Lib.hid hm
  have HWW := Lib.hid hW
  have HR := Lib.hid hr
  rw [hm] at h1 h4 hc HP ⊢
  have hm4 : m ≤ 4 := by omega
  have HF : Hid (∀ (k : Nat) (L : Int) (w : World), k ≤ m → WaysAt w p ws → Calls Try.prog 79 #[.slice p k c, .int .i64 L] w (Ret (.int .i64 (findW L (ws.take k))) w)) := Lib.hid fun k L w hk h => find_any L (ws.take k) p k c w (by rw [List.length_take]; omega) (by unfold maxLen; omega) (WaysAt.take h k)
  clear PP hE hm hW hr
  unfold maxLen at hc2
  have hcI : (m : Int) ≤ c := by omega
  have hmb : ((m : Int) != (m : Int)) = false := by simp
  go_enter Try.func78, Try.ntmps78
  go_wp2_with (go_at_call 93; refine (HP.out _).mono ?_; rintro e w1 ⟨rfl, hb1⟩; obtain ⟨l1, d1, rfl⟩ := later_of hb1; clear hb1)
  go_loopw [23] (RelL (wayF ws) ws (w.alloc (.cells #[.slice p m c, .bool x, .bool y, .bool z] 133))) (fun i _ => m - (intOf i).toNat)
  case atStart => exact ⟨0, _, _, by omega, rfl, rfl, fun i x hi => by omega⟩
  case round =>
    obtain ⟨k, l, d, hk, rfl, rfl, hall⟩ := hrel
    by_cases hlt : k < m
    · obtain ⟨x1, hx⟩ := get_some (xs := ws) (k := k) (by rw [HM.out]; exact hlt)
      obtain ⟨b, off, rfl⟩ := WaysAt.form HWW.out hx
      obtain ⟨c0, c1, c2, c3, c4, c5⟩ := WaysAt.at HWW.out hx
      have hin : inB w b := lt_of_cell c0
      have HX := Lib.hid hx
      have HALL := Lib.hid hall
      have HL : Hid (k + 1 ≤ ws.length) := Lib.hid (by rw [HM.out]; exact hlt)
      have hok := HR.out x1 (List.mem_of_getElem? hx)
      have PR := fun w => right_any x1 w
      clear hx hall hk
      have hkc : k ≤ c := by omega
      have hkcI : (k : Int) ≤ c := by omega
      by_cases hE : wayE x1 = 0
      · rw [hE] at PR
        have HRT := Lib.hid PR
        by_cases hs : x1.s = 0
        · by_cases hz : x1 = zeroW
          · have HV : Hid (wayF ws (0 + k) x1 = 0) := Lib.hid (by unfold wayF; rw [if_pos hE, if_pos hs, if_pos hz])
            have hq := run_way_zero hok true (by simp [hz])
            have HN := Lib.hid (next_all HX.out HALL.out HV.out)
            clear HX HALL HV hE PR hz
            obtain ⟨xs, xl, xa, xb, xc, xd⟩ := x1
            simp only at c0 c1 c2 c3 c4 c5 hs hq HRT
            subst hs
            go_wp2_with (go_at_call 94; refine (HRT.out _).mono ?_; rintro e w1 ⟨rfl, hb1⟩; obtain ⟨l1, d1, rfl⟩ := later_of hb1; clear hb1)
            go_quiet (fail)
            all_goals go_wp2
            all_goals exact ⟨⟨k + 1, _, _, HL.out, by go_num, later_al _ _ _ _ _ _, HN.out⟩, by simp [intOf]; omega⟩
          · have HV : Hid (wayF ws (0 + k) x1 = 3) := Lib.hid (by unfold wayF; rw [if_pos hE, if_pos hs, if_neg hz])
            have HE := Lib.hid ((fnz_at HALL.out HX.out (by rw [HV.out]; decide)).trans HV.out)
            have hq := run_way_zero hok false (by simp [hz])
            clear HX HALL HV hE PR hz
            obtain ⟨xs, xl, xa, xb, xc, xd⟩ := x1
            simp only at c0 c1 c2 c3 c4 c5 hs hq HRT
            subst hs
            go_wp2_with (go_at_call 94; refine (HRT.out _).mono ?_; rintro e w1 ⟨rfl, hb1⟩; obtain ⟨l1, d1, rfl⟩ := later_of hb1; clear hb1)
            go_ret
            exact ⟨congrArg (fun z => Ending.returned (Value.int .i64 z)) HE.out.symm, (by repeat (first | exact Below.refl _ _ | apply bs_later | apply bs_alloc | apply bs_drew | apply bs_drewN))⟩
        · have hsb : (x1.s == 0) = false := by simpa using hs
          have hsn : (x1.s != 0) = true := by simpa using hs
          by_cases hf : 0 ≤ findW x1.l (ws.take k)
          · have HV : Hid (wayF ws (0 + k) x1 = 6) := Lib.hid (by unfold wayF; rw [Nat.zero_add, if_pos hE, if_neg hs, if_pos hf])
            have HE := Lib.hid ((fnz_at HALL.out HX.out (by rw [HV.out]; decide)).trans HV.out)
            have HFF : Hid (∀ (w : World), WaysAt w (some ⟨b, off, none⟩) ws → Calls Try.prog 79 #[.slice (some ⟨b, off, none⟩) k c, .int .i64 x1.l] w (Ret (.int .i64 (findW x1.l (ws.take k))) w)) := Lib.hid fun w h => HF.out k x1.l w (by omega) h
            generalize findW x1.l (ws.take k) = F at *
            clear HX HALL HV hE PR hs HF
            obtain ⟨xs, xl, xa, xb, xc, xd⟩ := x1
            simp only at c0 c1 c2 c3 c4 c5 hsb hsn HRT HFF
            go_wp2_with (go_at_call 94; refine (HRT.out _).mono ?_; rintro e w1 ⟨rfl, hb1⟩; obtain ⟨l1, d1, rfl⟩ := later_of hb1; clear hb1)
            go_still_tail 10, (by kernel_rfl)
            all_goals go_wp2_with (go_at_call 79; refine (HFF.out _ (WaysAt.below HWW.out (by repeat (first | exact Below.refl _ _ | apply bs_later | apply bs_alloc | apply bs_drew | apply bs_drewN)))).mono ?_; rintro e w1 ⟨rfl, hb1⟩; obtain ⟨l2, d2, rfl⟩ := later_of hb1; clear hb1)
            all_goals go_ret
            all_goals exact ⟨congrArg (fun z => Ending.returned (Value.int .i64 z)) HE.out.symm, (by repeat (first | exact Below.refl _ _ | apply bs_later | apply bs_alloc | apply bs_drew | apply bs_drewN))⟩
          · have HV : Hid (wayF ws (0 + k) x1 = 0) := Lib.hid (by unfold wayF; rw [Nat.zero_add, if_pos hE, if_neg hs, if_neg hf])
            have HN := Lib.hid (next_all HX.out HALL.out HV.out)
            have HFF : Hid (∀ (w : World), WaysAt w (some ⟨b, off, none⟩) ws → Calls Try.prog 79 #[.slice (some ⟨b, off, none⟩) k c, .int .i64 x1.l] w (Ret (.int .i64 (findW x1.l (ws.take k))) w)) := Lib.hid fun w h => HF.out k x1.l w (by omega) h
            generalize findW x1.l (ws.take k) = F at *
            clear HX HALL HV hE PR hs HF
            obtain ⟨xs, xl, xa, xb, xc, xd⟩ := x1
            simp only at c0 c1 c2 c3 c4 c5 hsb hsn HRT HFF
            go_wp2_with (go_at_call 94; refine (HRT.out _).mono ?_; rintro e w1 ⟨rfl, hb1⟩; obtain ⟨l1, d1, rfl⟩ := later_of hb1; clear hb1)
            go_still_tail 10, (by kernel_rfl)
            all_goals go_wp2_with (go_at_call 79; refine (HFF.out _ (WaysAt.below HWW.out (by repeat (first | exact Below.refl _ _ | apply bs_later | apply bs_alloc | apply bs_drew | apply bs_drewN)))).mono ?_; rintro e w1 ⟨rfl, hb1⟩; obtain ⟨l2, d2, rfl⟩ := later_of hb1; clear hb1)
            all_goals exact ⟨⟨k + 1, _, _, HL.out, by go_num, by rw [later_al, later_later], HN.out⟩, by simp [intOf]; omega⟩
      · have HV : Hid (wayF ws (0 + k) x1 = 4) := Lib.hid (by unfold wayF; rw [if_neg hE])
        have HE := Lib.hid ((fnz_at HALL.out HX.out (by rw [HV.out]; decide)).trans HV.out)
        have HRT := Lib.hid PR
        generalize wayE x1 = R at *
        have hr1 : (R != 0) = true := by simpa using hE
        clear HX HALL HV hE PR
        obtain ⟨xs, xl, xa, xb, xc, xd⟩ := x1
        simp only at c0 c1 c2 c3 c4 c5 HRT
        go_wp2_with (go_at_call 94; refine (HRT.out _).mono ?_; rintro e w1 ⟨rfl, hb1⟩; obtain ⟨l1, d1, rfl⟩ := later_of hb1; clear hb1)
        go_ret
        exact ⟨congrArg (fun z => Ending.returned (Value.int .i64 z)) HE.out.symm, (by repeat (first | exact Below.refl _ _ | apply bs_later | apply bs_alloc | apply bs_drew | apply bs_drewN))⟩
    · obtain rfl : k = m := by have := HM.out; omega
      have HE := Lib.hid (fnz_ok (f := wayF ws) (xs := ws) (s := 0) fun i y hy => hall i y (by rw [← HM.out]; exact (List.getElem?_eq_some_iff.1 hy).1) hy)
      clear hall
      go_wp2
      go_ret
      exact ⟨congrArg (fun z => Ending.returned (Value.int .i64 z)) HE.out.symm, (by repeat (first | exact Below.refl _ _ | apply bs_later | apply bs_alloc | apply bs_drew | apply bs_drewN))⟩
end Go.Proofs.Ytffhfpdmfegcpac.ways
