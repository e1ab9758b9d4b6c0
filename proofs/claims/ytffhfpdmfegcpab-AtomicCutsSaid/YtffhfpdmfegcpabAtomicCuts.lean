/- ringdovekeep.AtomicCuts: for every memory, every list of deeds and every number, the call returns true. -/
import Derived.Test.YtffhfpdmfegcpabCutLaw
import Derived.Test.YtffhfpdmfegcpabConcat
import Derived.Test.YtffhfpdmfegcpabRun3
import Derived.Test.YtffhfpdmfegcpabEqU64
import Derived.Test.YtffhfpdmfegcpabGood
import Derived.Test.YtffhfpdmfegcpabRange
import Derived.Deep.DeepCutAuto
namespace Go.Proofs.Ytffhfpdmfegcpab.atomicCuts
open Go.ChangeShapes Go.WideShapes Go.ChangeAt Go.RowKit
open Go.Joins (ownsRow_le)
open Go.ChangeMaps (open_string shut_string)
open Go.Proofs.Ytffhfpdmfegcpab.base Go.Proofs.Ytffhfpdmfegcpab.knob Go.Proofs.Ytffhfpdmfegcpab.flat Go.Proofs.Ytffhfpdmfegcpab.same Go.Proofs.Ytffhfpdmfegcpab.addr Go.Proofs.Ytffhfpdmfegcpab.bank Go.Proofs.Ytffhfpdmfegcpab.bankSame Go.Proofs.Ytffhfpdmfegcpab.atomic Go.Proofs.Ytffhfpdmfegcpab.table Go.Proofs.Ytffhfpdmfegcpab.play Go.Proofs.Ytffhfpdmfegcpab.memEq Go.Proofs.Ytffhfpdmfegcpab.run3 Go.Proofs.Ytffhfpdmfegcpab.concat Go.Proofs.Ytffhfpdmfegcpab.range
set_option linter.unusedVariables false
set_option linter.unusedSimpArgs false

def sevenXs : List Int := 7 :: List.replicate 63 0
theorem sevenXs_len : sevenXs.length = 64 := by decide
theorem seven_is : (#[.int .u64 7, .int .u64 0, .int .u64 0, .int .u64 0, .int .u64 0, .int .u64 0, .int .u64 0, .int .u64 0, .int .u64 0, .int .u64 0, .int .u64 0, .int .u64 0, .int .u64 0, .int .u64 0, .int .u64 0, .int .u64 0, .int .u64 0, .int .u64 0, .int .u64 0, .int .u64 0, .int .u64 0, .int .u64 0, .int .u64 0, .int .u64 0, .int .u64 0, .int .u64 0, .int .u64 0, .int .u64 0, .int .u64 0, .int .u64 0, .int .u64 0, .int .u64 0, .int .u64 0, .int .u64 0, .int .u64 0, .int .u64 0, .int .u64 0, .int .u64 0, .int .u64 0, .int .u64 0, .int .u64 0, .int .u64 0, .int .u64 0, .int .u64 0, .int .u64 0, .int .u64 0, .int .u64 0, .int .u64 0, .int .u64 0, .int .u64 0, .int .u64 0, .int .u64 0, .int .u64 0, .int .u64 0, .int .u64 0, .int .u64 0, .int .u64 0, .int .u64 0, .int .u64 0, .int .u64 0, .int .u64 0, .int .u64 0, .int .u64 0, .int .u64 0] : Array Value) = memA sevenXs := by kernel_rfl

set_option maxHeartbeats 1000000 in
set_option maxRecDepth 100000 in
theorem atomics (w : World) : Calls Try.prog 53 #[] w (Ret (.bool true) w) := by
  have P := fun w => Do_ok sevenXs sevenXs_len 0 1 0 0 w (by decide)
  rw [show plainM sevenXs 1 0 0 = sevenXs from rfl, show plainV sevenXs 1 0 = 7 by decide] at P
  have hs := seven_is
  have hA : (memA sevenXs).size = 64 := by rw [size_memA, sevenXs_len]
  have hA1 := memA_one sevenXs
  generalize memA sevenXs = A at *
  have HA1 := Lib.hid hA1
  have HP := Lib.hid P
  have HS := Lib.hid hs
  clear P hs hA1
  go_enter Try.func53, Try.ntmps53
  go_wp2_with (fail)
  rw [HS.out]
  refine (HP.out _).mono ?_
  rintro e w1 ⟨rfl, hb1⟩
  obtain ⟨l1, d1, rfl⟩ := later_of hb1
  clear hb1
  go_wp2_with (refine wpList_store_r rfl 26 _ _ rfl _ rfl _ rfl 64 (by kernel_rfl) (by (simp only [go_sem, zero_size]; simp; done)) hA HA1.out ?_; intro W hW; simp [go_sem] at hW; subst hW)
  go_ret
  exact ⟨rfl, by repeat (first | exact Below.refl _ _ | apply bs_later | apply bs_alloc | apply bs_drew | apply bs_drewN)⟩

theorem two_ok {w : World} {n : Nat} (h : n = w.heap.size) : ∀ i, i < 2 → (w.alloc (.cells #[.int .i64 0, .int .i64 0] 27)).cell? ⟨n, i, none⟩ = some (.int .i64 0) := by
  intro i hi
  rw [World.cell?_alloc_at _ _ _ _ h]
  obtain rfl | rfl : i = 0 ∨ i = 1 := by omega
  all_goals rfl
theorem drop_nil {ds : List D4} {k c : Nat} (hk : ds.length ≤ c) (h : c = k) : ds.drop k = [] := List.drop_of_length_le (by omega)
theorem drop_at {w : World} {ad : Addr} {ds : List D4} (h : DeedsAt w (some ad) ds) (k : Nat) : DeedsAt w (some (ad.add (k * 4))) (ds.drop k) := by
  by_cases hk : k < ds.length
  · obtain ⟨b, off, h1, h2⟩ := play.DeedsAt.drop h k hk
    injection h1 with h1
    subst h1
    rw [Addr.add_mid]
    exact h2
  · rw [List.drop_of_length_le (by omega)]; exact play.DeedsAt.none _ _

set_option maxHeartbeats 8000000 in
set_option maxRecDepth 100000 in
theorem walk_bad (xs : List Int) (hl : xs.length = 64) (ds : List D4) (a : Option Addr) (n c : Nat) (k : Int) (w : World) (hm : n ≤ maxLen) (hd : ds.length = n) (h : DeedsAt w a ds) (hb : ¬ playE ds = 0 ∨ k < 0 ∨ (n : Int) < k) :
    Calls Try.prog 11 #[.agg (memA xs), .slice a n c, .int .i64 k] w (Ret (.bool true) w) := by
  have PP := fun w (h : DeedsAt w a ds) => play_any xs hl ds a n c w hm hd h
  have s1 : (memA xs).size = 64 := by rw [size_memA, hl]
  have s2 : (memA (outM xs ds)).size = 64 := by rw [size_memA, outM_len hl]
  have HE : Hid (¬ playE ds = 0 → outV xs ds = []) := Lib.hid fun h => by unfold outV; rw [if_neg h]
  unfold maxLen at hm
  generalize outM xs ds = om at *
  generalize outV xs ds = ov at *
  generalize playE ds = pe at *
  have HP := Lib.hid PP
  have HD := Lib.hid h
  clear PP hl hd h
  by_cases h0 : pe = 0
  · subst h0
    have hb' : k < 0 ∨ (n : Int) < k := by omega
    clear hb
    rcases hb' with hb | hb
    case' inr => have hb0 : ¬ k < 0 := by omega
    all_goals
      go_enter Try.func11, Try.ntmps11
      go_wp2_with (first
        | (refine wpList_load_r rfl 26 _ rfl _ rfl 64 _ Try.underlying26 rfl (by kernel_rfl) (by (simp [go_sem, s1, s2]; done)) ?_; intro C hC; simp [go_sem] at hC; subst hC)
        | (refine wpList_store_r rfl 26 _ _ rfl _ rfl _ rfl 64 (by kernel_rfl) (by (simp [go_sem, s1, s2]; done)) (by (simp [s1, s2]; done)) (memA_one _) ?_; intro W hW; simp [go_sem] at hW; subst hW)
        | (go_at_call 53; refine (atomics _).mono ?_; rintro e w1 ⟨rfl, hb1⟩; obtain ⟨l1, d1, rfl⟩ := later_of hb1; clear hb1)
        | (go_at_call 27; refine (HP.out _ (DeedsAt.below HD.out (by repeat (first | exact Below.refl _ _ | apply bs_later | apply bs_alloc | apply bs_drew | apply bs_drewN)))).mono ?_; rintro e w1 ⟨pv, rfl, hown, hb1⟩; obtain ⟨l2, d2, rfl⟩ := later_of hb1; have HO := Lib.hid hown; obtain ⟨pa, pc, hpv⟩ := own_form hown; subst hpv; clear hb1 hown))
      go_ret
      exact ⟨rfl, by repeat (first | exact Below.refl _ _ | apply bs_later | apply bs_alloc | apply bs_drew | apply bs_drewN)⟩
  · obtain rfl := HE.out h0
    have h0' : (pe != 0) = true := by simpa using h0
    have h0'' : (pe == 0) = false := by simpa using h0
    clear hb h0
    go_enter Try.func11, Try.ntmps11
    go_wp2_with (first
      | (refine wpList_load_r rfl 26 _ rfl _ rfl 64 _ Try.underlying26 rfl (by kernel_rfl) (by (simp [go_sem, s1, s2]; done)) ?_; intro C hC; simp [go_sem] at hC; subst hC)
      | (refine wpList_store_r rfl 26 _ _ rfl _ rfl _ rfl 64 (by kernel_rfl) (by (simp [go_sem, s1, s2]; done)) (by (simp [s1, s2]; done)) (memA_one _) ?_; intro W hW; simp [go_sem] at hW; subst hW)
      | (go_at_call 53; refine (atomics _).mono ?_; rintro e w1 ⟨rfl, hb1⟩; obtain ⟨l1, d1, rfl⟩ := later_of hb1; clear hb1)
      | (go_at_call 27; refine (HP.out _ (DeedsAt.below HD.out (by repeat (first | exact Below.refl _ _ | apply bs_later | apply bs_alloc | apply bs_drew | apply bs_drewN)))).mono ?_; rintro e w1 ⟨pv, rfl, hown, hb1⟩; obtain ⟨l2, d2, rfl⟩ := later_of hb1; have HO := Lib.hid hown; obtain ⟨pa, pc, hpv⟩ := own_form hown; subst hpv; clear hb1 hown))
    go_ret
    exact ⟨rfl, by repeat (first | exact Below.refl _ _ | apply bs_later | apply bs_alloc | apply bs_drew | apply bs_drewN)⟩

theorem drop_gen {w : World} {a : Option Addr} {ds : List D4} {c : Nat} (h : DeedsAt w a ds) (hna : a = none → ds.length = 0) (hc : ds.length ≤ c) (k : Nat) :
    DeedsAt w (if c = k then a else a.map (fun x => x.add (k * 4))) (ds.drop k) := by
  by_cases hk : c = k
  · rw [drop_nil hc hk]; exact play.DeedsAt.none _ _
  · rw [if_neg hk]
    cases a with
    | none =>
      obtain rfl : ds = [] := List.length_eq_zero_iff.1 (hna rfl)
      rw [List.drop_nil]; exact play.DeedsAt.none _ _
    | some ad => exact drop_at h k
/-- what stands when a part of the list has been played -/
def Mid2 (ys vs : List Int) (W0 : World) (s10 s11 s12 : Value) (wx : World) : Prop :=
  ∃ (b pc : Nat) (pa : Option Addr), s10 = .pointer (some ⟨b, 0, none⟩) ∧ s11 = .slice pa vs.length pc ∧ s12 = .int .i64 0 ∧ Below W0.heap.size W0 wx ∧ MemAt wx b ys ∧ IntsAt .u64 wx pa vs ∧ (pa = none → vs.length = 0 ∧ pc = 0)

set_option maxHeartbeats 8000000 in
set_option maxRecDepth 100000 in
theorem walk_ok (xs : List Int) (hl : xs.length = 64) (wx : AllU xs) (ds : List D4) (hok : ∀ x ∈ ds, x.Ok) (a : Option Addr) (n c : Nat) (K0 : Nat) (w : World) (hm : n ≤ maxLen) (hnc : n ≤ c) (hcm : c ≤ maxLen) (hd : ds.length = n) (hna : a = none → n = 0) (h : DeedsAt w a ds) (hb : playE ds = 0) (hk : K0 ≤ n) :
    Calls Try.prog 11 #[.agg (memA xs), .slice a n c, .int .i64 (K0 : Int)] w (Ret (.bool true) w) := by
  obtain ⟨hdl, e1, e2⟩ := playE_cut hb K0
  obtain ⟨law1, law2⟩ := cut_law xs hb K0
  have PP := fun w (h : DeedsAt w a ds) => play_any xs hl ds a n c w hm hd h
  have P1 := fun w (h : DeedsAt w a (ds.take K0)) => play_any xs hl (ds.take K0) a K0 c w (by omega) (by rw [List.length_take]; omega) h
  have P2 := fun a2 c2 w (h : DeedsAt w a2 (ds.drop K0)) => play_any (outM xs (ds.take K0)) (outM_len hl _) (ds.drop K0) a2 (n - K0) c2 w (by omega) (by rw [List.length_drop]; omega) h
  rw [hb] at PP
  rw [e1] at P1
  rw [e2, law1] at P2
  have s1 : (memA xs).size = 64 := by rw [size_memA, hl]
  have s2 : (memA (outM xs ds)).size = 64 := by rw [size_memA, outM_len hl]
  have s3 : (memA (outM xs (ds.take K0))).size = 64 := by rw [size_memA, outM_len hl]
  have hom0 : AllU (outM xs ds) := by unfold outM; rw [if_pos hb]; exact playM_wf wx hok
  have hq := run_same_mem (outM xs ds) (outM_len hl ds) hom0
  have hv1 : (outV xs (ds.take K0)).length ≤ 200 := outV_len _ _
  have hv2 : (outV (outM xs (ds.take K0)) (ds.drop K0)).length ≤ 200 := outV_len _ _
  have hv3 : (outV xs ds).length ≤ 200 := outV_len _ _
  have HD := Lib.hid h
  have HNA := Lib.hid hna
  have HDL : Hid (ds.length = n) := Lib.hid hd
  have HXL := Lib.hid hl
  clear hom0 law1 e1 e2 hb hl
  generalize outM xs ds = om at *
  generalize outV xs ds = ov at *
  generalize outV (outM xs (ds.take K0)) (ds.drop K0) = v2 at *
  generalize outM xs (ds.take K0) = om1 at *
  generalize outV xs (ds.take K0) = v1 at *
  have HP := Lib.hid PP
  have HP1 := Lib.hid P1
  have HP2 := Lib.hid P2
  have HL := Lib.hid law2
  clear PP P1 P2 law2 hd h hna
  unfold maxLen at hm hcm
  have hkn : ((K0 : Int) ≤ n) := by omega
  have hkc : K0 ≤ c := by omega
  go_enter Try.func11, Try.ntmps11
  go_wp2_with (first
    | (refine wpList_load_r rfl 26 _ rfl _ rfl 64 _ Try.underlying26 rfl (by kernel_rfl) (by (simp [go_sem, s1, s2, s3]; done)) ?_; intro C hC; simp [go_sem] at hC; subst hC)
    | (refine wpList_store_r rfl 26 _ _ rfl _ rfl _ rfl 64 (by kernel_rfl) (by (simp [go_sem, s1, s2, s3]; done)) (by (simp [s1, s2, s3]; done)) (memA_one _) ?_; intro W hW; simp [go_sem] at hW; subst hW)
    | (go_at_call 53; refine (atomics _).mono ?_; rintro e w1 ⟨rfl, hb1⟩; obtain ⟨l1, d1, rfl⟩ := later_of hb1; clear hb1)
    | (go_at_call 27; refine (HP.out _ (DeedsAt.below HD.out (by repeat (first | exact Below.refl _ _ | apply bs_later | apply bs_alloc | apply bs_drew | apply bs_drewN)))).mono ?_; rintro e w1 ⟨pv, rfl, hown, hb1⟩; obtain ⟨l2, d2, rfl⟩ := later_of hb1; have HO := Lib.hid hown; obtain ⟨pa, pc, hpv⟩ := own_form hown; subst hpv; clear hb1 hown)
    | (go_at_call 27; refine (HP1.out _ (DeedsAt.below (play.DeedsAt.take HD.out K0) (by repeat (first | exact Below.refl _ _ | apply bs_later | apply bs_alloc | apply bs_drew | apply bs_drewN)))).mono ?_; rintro e w1 ⟨pv, rfl, hown, hb1⟩; obtain ⟨l3, d3, rfl⟩ := later_of hb1; have HO1 := Lib.hid hown; obtain ⟨pa1, pc1, hpv⟩ := own_form hown; subst hpv; clear hb1 hown))
  have hu26 := Try.underlying26
  have hr0 : ((((w.alloc (.cells (memA xs) 26)).later l1 d1).later l2 d2).alloc (.cells (memA om) 26)).rangeAt w.heap.size 0 (xs.map (Value.int .u64)) := range_mem ⟨by simp [go_sem, s1], by simp [go_sem]⟩
  have hi1 : (Try.prog.info? 26).map (·.size) = some (xs.map (Value.int .u64)).length := by rw [List.length_map, HXL.out]; kernel_rfl
  go_cut [10, 11, 12] (fun c10 c11 c12 wx => Mid2 om1 v1 ((((w.alloc (.cells (memA xs) 26)).later l1 d1).later l2 d2).alloc (.cells (memA om) 26)) c10 c11 c12 wx)
  case first =>
    refine wp_region_held_drew (S := fun w' => w'.rangeAt w.heap.size 0 (xs.map (Value.int .u64))) (by kernel_rfl) (range_below hr0 (by repeat (first | exact Below.refl _ _ | apply bs_later | apply bs_alloc | apply bs_drew | apply bs_drewN))) (fun hHeld => ?_)
    refine wpAnyH_take (i := 0) rfl (by decide +kernel) (by decide +kernel) (by decide +kernel) (fun _ _ _ h => h) (yieldsIf_load_mid (by rfl) _ _ rfl _ _ rfl _ _ (fun w hw => hw) hu26 rfl hi1) (by assumption) ?_
    try simp only [Act.put, List.getElem_toArray, List.getElem_cons_succ, List.getElem_cons_zero, List.setIfInBounds_toArray, List.set_cons_zero, List.set_cons_succ]
    refine wpAnyH_take (i := 1) (v := ?vpa1) rfl (by decide +kernel) (by decide +kernel) (by decide +kernel) (fun _ _ _ h => h) (Or.inl ⟨by rfl, ?ypa1⟩) (by assumption) ?rpa1
    case ypa1 => intro w hw; go_simp; with_reducible rfl
    try simp only [Act.put, List.getElem_toArray, List.getElem_cons_succ, List.getElem_cons_zero, List.setIfInBounds_toArray, List.set_cons_zero, List.set_cons_succ]
    refine wpAnyH_take (i := 2) (v := ?vpa2) rfl (by decide +kernel) (by decide +kernel) (by decide +kernel) (fun _ _ _ h => h) (Or.inl ⟨by rfl, ?ypa2⟩) (by assumption) ?rpa2
    case ypa2 => intro w hw; go_simp; with_reducible rfl
    try simp only [Act.put, List.getElem_toArray, List.getElem_cons_succ, List.getElem_cons_zero, List.setIfInBounds_toArray, List.set_cons_zero, List.set_cons_succ]
    refine wpAnyH_take (i := 3) (v := ?vpa3) rfl (by decide +kernel) (by decide +kernel) (by decide +kernel) (fun _ _ _ h => h) (Or.inl ⟨by rfl, ?ypa3⟩) (by assumption) ?rpa3
    case ypa3 => intro w hw; go_simp; with_reducible rfl
    try simp only [Act.put, List.getElem_toArray, List.getElem_cons_succ, List.getElem_cons_zero, List.setIfInBounds_toArray, List.set_cons_zero, List.set_cons_succ]
    refine wpAnyH_ready (rs := [4, 9]) (by decide +kernel) (by simp) ?_
    refine AllReadyH.cons rfl (fun K hK => ?_) (AllReadyH.cons rfl (fun K hK => ?_) AllReadyH.nil)
    · go_simp
      (refine (HP1.out _ (DeedsAt.below (play.DeedsAt.take HD.out K0) (by repeat (first | exact Below.refl _ _ | apply bs_later | apply bs_alloc | apply bs_drew | apply bs_drewN)))).mono ?_; rintro e w1 ⟨pv, rfl, hown, hb1⟩; obtain ⟨l3, d3, rfl⟩ := later_of hb1; have HO1 := Lib.hid hown; obtain ⟨pa1, pc1, hpv⟩ := own_form hown; subst hpv; clear hb1 hown)
      refine hK.out _ _ (range_below hr0 (by repeat (first | exact Below.refl _ _ | apply bs_later | apply bs_alloc | apply bs_drew | apply bs_drewN))) (fun hHeld => ?_)
      clear hK K
      try simp only [Act.put, List.getElem_toArray, List.getElem_cons_succ, List.getElem_cons_zero, List.setIfInBounds_toArray, List.set_cons_zero, List.set_cons_succ]
      refine wpAnyH_take (i := 5) (v := ?vpb5) rfl (by decide +kernel) (by decide +kernel) (by decide +kernel) (fun _ _ _ h => h) (Or.inl ⟨by rfl, ?ypb5⟩) (by assumption) ?rpb5
      case ypb5 => intro w hw; go_simp; with_reducible rfl
      try simp only [Act.put, List.getElem_toArray, List.getElem_cons_succ, List.getElem_cons_zero, List.setIfInBounds_toArray, List.set_cons_zero, List.set_cons_succ]
      refine wpAnyH_take (i := 6) (v := ?vpb6) rfl (by decide +kernel) (by decide +kernel) (by decide +kernel) (fun _ _ _ h => h) (Or.inl ⟨by rfl, ?ypb6⟩) (by assumption) ?rpb6
      case ypb6 => intro w hw; go_simp; with_reducible rfl
      try simp only [Act.put, List.getElem_toArray, List.getElem_cons_succ, List.getElem_cons_zero, List.setIfInBounds_toArray, List.set_cons_zero, List.set_cons_succ]
      refine wpAnyH_take (i := 7) (v := ?vpb7) rfl (by decide +kernel) (by decide +kernel) (by decide +kernel) (fun _ _ _ h => h) (Or.inl ⟨by rfl, ?ypb7⟩) (by assumption) ?rpb7
      case ypb7 => intro w hw; go_simp; with_reducible rfl
      try simp only [Act.put, List.getElem_toArray, List.getElem_cons_succ, List.getElem_cons_zero, List.setIfInBounds_toArray, List.set_cons_zero, List.set_cons_succ]
      refine wpAnyH_take (i := 8) (v := ?vpb8) rfl (by decide +kernel) (by decide +kernel) (by decide +kernel) (fun _ _ _ h => h) (Or.inl ⟨by rfl, ?ypb8⟩) (by assumption) ?rpb8
      case ypb8 => intro w hw; go_simp; with_reducible rfl
      try simp only [Act.put, List.getElem_toArray, List.getElem_cons_succ, List.getElem_cons_zero, List.setIfInBounds_toArray, List.set_cons_zero, List.set_cons_succ]
      refine wpAnyH_ready (rs := [9]) (by decide +kernel) (by simp) ?_
      refine AllReadyH.cons rfl (fun K hK => ?_) AllReadyH.nil
      go_simp
      refine hK.out _ _ (range_below hr0 (by repeat (first | exact Below.refl _ _ | apply bs_later | apply bs_alloc | apply bs_drew | apply bs_drewN))) (fun hHeld => ?_)
      clear hK K
      try simp only [Act.put, List.getElem_toArray, List.getElem_cons_succ, List.getElem_cons_zero, List.setIfInBounds_toArray, List.set_cons_zero, List.set_cons_succ]
      refine wpAnyH_ready (rs := [10]) (by decide +kernel) (by simp) ?_
      refine AllReadyH.cons rfl (fun K hK => ?_) AllReadyH.nil
      rw [if_pos (by rfl)]
      refine wp_store_r 26 _ _ rfl _ rfl (memA om1) rfl 64 (by kernel_rfl) (by (simp [go_sem, s3]; done)) (by (simp [s3]; done)) (memA_one _) ?_
      intro W hW; simp [go_sem] at hW; subst hW
      refine hK.out _ _ (range_below hr0 (by repeat (first | exact Below.refl _ _ | apply bs_later | apply bs_alloc | apply bs_drew | apply bs_drewN))) (fun hHeld => ?_)
      clear hK K
      try simp only [Act.put, List.getElem_toArray, List.getElem_cons_succ, List.getElem_cons_zero, List.setIfInBounds_toArray, List.set_cons_zero, List.set_cons_succ]
      refine wpAnyH_take (i := 11) (v := ?vpb11) rfl (by decide +kernel) (by decide +kernel) (by decide +kernel) (fun _ _ _ h => h) (Or.inl ⟨by rfl, ?ypb11⟩) (by assumption) ?rpb11
      case ypb11 => intro w hw; go_simp; with_reducible rfl
      try simp only [Act.put, List.getElem_toArray, List.getElem_cons_succ, List.getElem_cons_zero, List.setIfInBounds_toArray, List.set_cons_zero, List.set_cons_succ]
      refine wpAnyH_take (i := 12) (v := ?vpb12) rfl (by decide +kernel) (by decide +kernel) (by decide +kernel) (fun _ _ _ h => h) (Or.inl ⟨by rfl, ?ypb12⟩) (by assumption) ?rpb12
      case ypb12 => intro w hw; go_simp; with_reducible rfl
      try simp only [Act.put, List.getElem_toArray, List.getElem_cons_succ, List.getElem_cons_zero, List.setIfInBounds_toArray, List.set_cons_zero, List.set_cons_succ]
      refine wpAnyH_done (by decide +kernel) ?_ _
      go_wp2_with (fail)
      go_meet
      exact ⟨_, pc1, pa1, rfl, rfl, rfl, (by repeat (first | exact Below.refl _ _ | apply bs_later | apply bs_alloc | apply bs_drew | apply bs_drewN)), ⟨by simp [go_sem, s3], by simp [go_sem]⟩, (own_ints HO1.out).2.below (bs_alloc (Below.refl _ _) _), fun h => by subst h; exact own_nil HO1.out⟩
    · go_simp
      refine hK.out _ _ (range_below hr0 (by repeat (first | exact Below.refl _ _ | apply bs_later | apply bs_alloc | apply bs_drew | apply bs_drewN))) (fun hHeld => ?_)
      clear hK K
      try simp only [Act.put, List.getElem_toArray, List.getElem_cons_succ, List.getElem_cons_zero, List.setIfInBounds_toArray, List.set_cons_zero, List.set_cons_succ]
      refine wpAnyH_ready (rs := [4]) (by decide +kernel) (by simp) ?_
      refine AllReadyH.cons rfl (fun K hK => ?_) AllReadyH.nil
      go_simp
      (refine (HP1.out _ (DeedsAt.below (play.DeedsAt.take HD.out K0) (by repeat (first | exact Below.refl _ _ | apply bs_later | apply bs_alloc | apply bs_drew | apply bs_drewN)))).mono ?_; rintro e w1 ⟨pv, rfl, hown, hb1⟩; obtain ⟨l3, d3, rfl⟩ := later_of hb1; have HO1 := Lib.hid hown; obtain ⟨pa1, pc1, hpv⟩ := own_form hown; subst hpv; clear hb1 hown)
      refine hK.out _ _ (range_below hr0 (by repeat (first | exact Below.refl _ _ | apply bs_later | apply bs_alloc | apply bs_drew | apply bs_drewN))) (fun hHeld => ?_)
      clear hK K
      try simp only [Act.put, List.getElem_toArray, List.getElem_cons_succ, List.getElem_cons_zero, List.setIfInBounds_toArray, List.set_cons_zero, List.set_cons_succ]
      refine wpAnyH_take (i := 5) (v := ?vpc5) rfl (by decide +kernel) (by decide +kernel) (by decide +kernel) (fun _ _ _ h => h) (Or.inl ⟨by rfl, ?ypc5⟩) (by assumption) ?rpc5
      case ypc5 => intro w hw; go_simp; with_reducible rfl
      try simp only [Act.put, List.getElem_toArray, List.getElem_cons_succ, List.getElem_cons_zero, List.setIfInBounds_toArray, List.set_cons_zero, List.set_cons_succ]
      refine wpAnyH_take (i := 6) (v := ?vpc6) rfl (by decide +kernel) (by decide +kernel) (by decide +kernel) (fun _ _ _ h => h) (Or.inl ⟨by rfl, ?ypc6⟩) (by assumption) ?rpc6
      case ypc6 => intro w hw; go_simp; with_reducible rfl
      try simp only [Act.put, List.getElem_toArray, List.getElem_cons_succ, List.getElem_cons_zero, List.setIfInBounds_toArray, List.set_cons_zero, List.set_cons_succ]
      refine wpAnyH_take (i := 7) (v := ?vpc7) rfl (by decide +kernel) (by decide +kernel) (by decide +kernel) (fun _ _ _ h => h) (Or.inl ⟨by rfl, ?ypc7⟩) (by assumption) ?rpc7
      case ypc7 => intro w hw; go_simp; with_reducible rfl
      try simp only [Act.put, List.getElem_toArray, List.getElem_cons_succ, List.getElem_cons_zero, List.setIfInBounds_toArray, List.set_cons_zero, List.set_cons_succ]
      refine wpAnyH_take (i := 8) (v := ?vpc8) rfl (by decide +kernel) (by decide +kernel) (by decide +kernel) (fun _ _ _ h => h) (Or.inl ⟨by rfl, ?ypc8⟩) (by assumption) ?rpc8
      case ypc8 => intro w hw; go_simp; with_reducible rfl
      try simp only [Act.put, List.getElem_toArray, List.getElem_cons_succ, List.getElem_cons_zero, List.setIfInBounds_toArray, List.set_cons_zero, List.set_cons_succ]
      refine wpAnyH_ready (rs := [10]) (by decide +kernel) (by simp) ?_
      refine AllReadyH.cons rfl (fun K hK => ?_) AllReadyH.nil
      rw [if_pos (by rfl)]
      refine wp_store_r 26 _ _ rfl _ rfl (memA om1) rfl 64 (by kernel_rfl) (by (simp [go_sem, s3]; done)) (by (simp [s3]; done)) (memA_one _) ?_
      intro W hW; simp [go_sem] at hW; subst hW
      refine hK.out _ _ (range_below hr0 (by repeat (first | exact Below.refl _ _ | apply bs_later | apply bs_alloc | apply bs_drew | apply bs_drewN))) (fun hHeld => ?_)
      clear hK K
      try simp only [Act.put, List.getElem_toArray, List.getElem_cons_succ, List.getElem_cons_zero, List.setIfInBounds_toArray, List.set_cons_zero, List.set_cons_succ]
      refine wpAnyH_take (i := 11) (v := ?vpc11) rfl (by decide +kernel) (by decide +kernel) (by decide +kernel) (fun _ _ _ h => h) (Or.inl ⟨by rfl, ?ypc11⟩) (by assumption) ?rpc11
      case ypc11 => intro w hw; go_simp; with_reducible rfl
      try simp only [Act.put, List.getElem_toArray, List.getElem_cons_succ, List.getElem_cons_zero, List.setIfInBounds_toArray, List.set_cons_zero, List.set_cons_succ]
      refine wpAnyH_take (i := 12) (v := ?vpc12) rfl (by decide +kernel) (by decide +kernel) (by decide +kernel) (fun _ _ _ h => h) (Or.inl ⟨by rfl, ?ypc12⟩) (by assumption) ?rpc12
      case ypc12 => intro w hw; go_simp; with_reducible rfl
      try simp only [Act.put, List.getElem_toArray, List.getElem_cons_succ, List.getElem_cons_zero, List.setIfInBounds_toArray, List.set_cons_zero, List.set_cons_succ]
      refine wpAnyH_done (by decide +kernel) ?_ _
      go_wp2_with (fail)
      go_meet
      exact ⟨_, pc1, pa1, rfl, rfl, rfl, (by repeat (first | exact Below.refl _ _ | apply bs_later | apply bs_alloc | apply bs_drew | apply bs_drewN)), ⟨by simp [go_sem, s3], by simp [go_sem]⟩, (own_ints (own_swap (W1 := (((((w.alloc (.cells (memA xs) 26)).later l1 d1).later l2 d2).alloc (.cells (memA om) 26)).alloc (.cells (memA om1) 26)).drew) HO1.out (Nat.le_refl _) (by simp))).2, fun h => by subst h; exact own_nil HO1.out⟩
  case rest =>
    obtain ⟨b1, pc2, pa2, rfl, rfl, rfl, hbw1, hM1, hI1, hN1⟩ := hcut
    have hM7 : MemAt wc (w.heap.size + 1 + l1.size + l2.size) om := MemAt.below ⟨by simp [go_sem, s2], by simp [go_sem]⟩ hbw1
    have hIv : IntsAt .u64 wc pa ov := ((own_ints HO.out).2.below (bs_alloc (Below.refl _ _) _)).below hbw1
    have hDw := (DeedsAt.below HD.out (by repeat (first | exact Below.refl _ _ | apply bs_later | apply bs_alloc | apply bs_drew | apply bs_drewN))).below hbw1
    have hbw : Below w.heap.size w wc := below_trans (by repeat (first | exact Below.refl _ _ | apply bs_later | apply bs_alloc | apply bs_drew | apply bs_drewN)) hbw1
    clear hbw1 HO hr0
    have hdg : DeedsAt wc (if c = K0 then a else a.map (fun x => x.add (K0 * 4))) (ds.drop K0) := drop_gen hDw (fun h => by rw [HDL.out]; exact HNA.out h) (by rw [HDL.out]; omega) K0
    obtain ⟨a2, ha2⟩ : ∃ a2, (if c = K0 then a else a.map (fun x => x.add (K0 * 4))) = a2 := ⟨_, rfl⟩
    rw [ha2] at hdg
    have hr1 : wc.rangeAt b1 0 (om1.map (Value.int .u64)) := range_mem hM1
    have hi2 : (Try.prog.info? 26).map (·.size) = some (om1.map (Value.int .u64)).length := by rw [List.length_map, ← size_memA, s3]; kernel_rfl
    go_wp2_with (fail)
    go_cut [13, 14, 15] (fun c13 c14 c15 wx => Mid2 om v2 wc c13 c14 c15 wx)
    case first =>
      refine wp_region_held_drew (S := fun w' => w'.rangeAt b1 0 (om1.map (Value.int .u64))) (by kernel_rfl) (range_below hr1 (by repeat (first | exact Below.refl _ _ | apply bs_later | apply bs_alloc | apply bs_drew | apply bs_drewN))) (fun hHeld => ?_)
      refine wpAnyH_take (i := 0) rfl (by decide +kernel) (by decide +kernel) (by decide +kernel) (fun _ _ _ h => h) (yieldsIf_load_mid (by rfl) _ _ rfl _ _ rfl _ _ (fun w hw => hw) hu26 rfl hi2) (by assumption) ?_
      try simp only [Act.put, List.getElem_toArray, List.getElem_cons_succ, List.getElem_cons_zero, List.setIfInBounds_toArray, List.set_cons_zero, List.set_cons_succ]
      refine wpAnyH_take (i := 1) (v := ?vqa1) rfl (by decide +kernel) (by decide +kernel) (by decide +kernel) (fun _ _ _ h => h) (Or.inl ⟨by rfl, ?yqa1⟩) (by assumption) ?rqa1
      case yqa1 => intro w hw; go_simp; with_reducible rfl
      try simp only [Act.put, List.getElem_toArray, List.getElem_cons_succ, List.getElem_cons_zero, List.setIfInBounds_toArray, List.set_cons_zero, List.set_cons_succ]
      refine wpAnyH_take (i := 2) (v := ?vqa2) rfl (by decide +kernel) (by decide +kernel) (by decide +kernel) (fun _ _ _ h => h) (Or.inl ⟨by rfl, ?yqa2⟩) (by assumption) ?rqa2
      case yqa2 => intro w hw; go_simp; with_reducible rfl
      try simp only [Act.put, List.getElem_toArray, List.getElem_cons_succ, List.getElem_cons_zero, List.setIfInBounds_toArray, List.set_cons_zero, List.set_cons_succ]
      refine wpAnyH_take (i := 3) (v := ?vqa3) rfl (by decide +kernel) (by decide +kernel) (by decide +kernel) (fun _ _ _ h => h) (Or.inl ⟨by rfl, ?yqa3⟩) (by assumption) ?rqa3
      case yqa3 => intro w hw; go_simp; with_reducible rfl
      try simp only [Act.put, List.getElem_toArray, List.getElem_cons_succ, List.getElem_cons_zero, List.setIfInBounds_toArray, List.set_cons_zero, List.set_cons_succ]
      refine wpAnyH_ready (rs := [4, 9]) (by decide +kernel) (by simp) ?_
      refine AllReadyH.cons rfl (fun K hK => ?_) (AllReadyH.cons rfl (fun K hK => ?_) AllReadyH.nil)
      · go_simp
        (refine (HP2.out _ _ _ (DeedsAt.below hdg (by repeat (first | exact Below.refl _ _ | apply bs_later | apply bs_alloc | apply bs_drew | apply bs_drewN)))).mono ?_; rintro e w1 ⟨pv, rfl, hown, hb1⟩; obtain ⟨l3, d3, rfl⟩ := later_of hb1; have HO2 := Lib.hid hown; obtain ⟨pa1, pc1, hpv⟩ := own_form hown; subst hpv; clear hb1 hown)
        refine hK.out _ _ (range_below hr1 (by repeat (first | exact Below.refl _ _ | apply bs_later | apply bs_alloc | apply bs_drew | apply bs_drewN))) (fun hHeld => ?_)
        clear hK K
        try simp only [Act.put, List.getElem_toArray, List.getElem_cons_succ, List.getElem_cons_zero, List.setIfInBounds_toArray, List.set_cons_zero, List.set_cons_succ]
        refine wpAnyH_take (i := 5) (v := ?vqb5) rfl (by decide +kernel) (by decide +kernel) (by decide +kernel) (fun _ _ _ h => h) (Or.inl ⟨by rfl, ?yqb5⟩) (by assumption) ?rqb5
        case yqb5 => intro w hw; go_simp; with_reducible rfl
        try simp only [Act.put, List.getElem_toArray, List.getElem_cons_succ, List.getElem_cons_zero, List.setIfInBounds_toArray, List.set_cons_zero, List.set_cons_succ]
        refine wpAnyH_take (i := 6) (v := ?vqb6) rfl (by decide +kernel) (by decide +kernel) (by decide +kernel) (fun _ _ _ h => h) (Or.inl ⟨by rfl, ?yqb6⟩) (by assumption) ?rqb6
        case yqb6 => intro w hw; go_simp; with_reducible rfl
        try simp only [Act.put, List.getElem_toArray, List.getElem_cons_succ, List.getElem_cons_zero, List.setIfInBounds_toArray, List.set_cons_zero, List.set_cons_succ]
        refine wpAnyH_take (i := 7) (v := ?vqb7) rfl (by decide +kernel) (by decide +kernel) (by decide +kernel) (fun _ _ _ h => h) (Or.inl ⟨by rfl, ?yqb7⟩) (by assumption) ?rqb7
        case yqb7 => intro w hw; go_simp; with_reducible rfl
        try simp only [Act.put, List.getElem_toArray, List.getElem_cons_succ, List.getElem_cons_zero, List.setIfInBounds_toArray, List.set_cons_zero, List.set_cons_succ]
        refine wpAnyH_take (i := 8) (v := ?vqb8) rfl (by decide +kernel) (by decide +kernel) (by decide +kernel) (fun _ _ _ h => h) (Or.inl ⟨by rfl, ?yqb8⟩) (by assumption) ?rqb8
        case yqb8 => intro w hw; go_simp; with_reducible rfl
        try simp only [Act.put, List.getElem_toArray, List.getElem_cons_succ, List.getElem_cons_zero, List.setIfInBounds_toArray, List.set_cons_zero, List.set_cons_succ]
        refine wpAnyH_ready (rs := [9]) (by decide +kernel) (by simp) ?_
        refine AllReadyH.cons rfl (fun K hK => ?_) AllReadyH.nil
        go_simp
        refine hK.out _ _ (range_below hr1 (by repeat (first | exact Below.refl _ _ | apply bs_later | apply bs_alloc | apply bs_drew | apply bs_drewN))) (fun hHeld => ?_)
        clear hK K
        try simp only [Act.put, List.getElem_toArray, List.getElem_cons_succ, List.getElem_cons_zero, List.setIfInBounds_toArray, List.set_cons_zero, List.set_cons_succ]
        refine wpAnyH_ready (rs := [10]) (by decide +kernel) (by simp) ?_
        refine AllReadyH.cons rfl (fun K hK => ?_) AllReadyH.nil
        rw [if_pos (by rfl)]
        refine wp_store_r 26 _ _ rfl _ rfl (memA om) rfl 64 (by kernel_rfl) (by (simp [go_sem, s2]; done)) (by (simp [s2]; done)) (memA_one _) ?_
        intro W hW; simp [go_sem] at hW; subst hW
        refine hK.out _ _ (range_below hr1 (by repeat (first | exact Below.refl _ _ | apply bs_later | apply bs_alloc | apply bs_drew | apply bs_drewN))) (fun hHeld => ?_)
        clear hK K
        try simp only [Act.put, List.getElem_toArray, List.getElem_cons_succ, List.getElem_cons_zero, List.setIfInBounds_toArray, List.set_cons_zero, List.set_cons_succ]
        refine wpAnyH_take (i := 11) (v := ?vqb11) rfl (by decide +kernel) (by decide +kernel) (by decide +kernel) (fun _ _ _ h => h) (Or.inl ⟨by rfl, ?yqb11⟩) (by assumption) ?rqb11
        case yqb11 => intro w hw; go_simp; with_reducible rfl
        try simp only [Act.put, List.getElem_toArray, List.getElem_cons_succ, List.getElem_cons_zero, List.setIfInBounds_toArray, List.set_cons_zero, List.set_cons_succ]
        refine wpAnyH_take (i := 12) (v := ?vqb12) rfl (by decide +kernel) (by decide +kernel) (by decide +kernel) (fun _ _ _ h => h) (Or.inl ⟨by rfl, ?yqb12⟩) (by assumption) ?rqb12
        case yqb12 => intro w hw; go_simp; with_reducible rfl
        try simp only [Act.put, List.getElem_toArray, List.getElem_cons_succ, List.getElem_cons_zero, List.setIfInBounds_toArray, List.set_cons_zero, List.set_cons_succ]
        refine wpAnyH_done (by decide +kernel) ?_ _
        go_wp2_with (fail)
        go_meet
        exact ⟨_, pc1, pa1, rfl, rfl, rfl, (by repeat (first | exact Below.refl _ _ | apply bs_later | apply bs_alloc | apply bs_drew | apply bs_drewN)), ⟨by simp [go_sem, s2], by simp [go_sem]⟩, (own_ints HO2.out).2.below (bs_alloc (Below.refl _ _) _), fun h => by subst h; exact own_nil HO2.out⟩
      · go_simp
        refine hK.out _ _ (range_below hr1 (by repeat (first | exact Below.refl _ _ | apply bs_later | apply bs_alloc | apply bs_drew | apply bs_drewN))) (fun hHeld => ?_)
        clear hK K
        try simp only [Act.put, List.getElem_toArray, List.getElem_cons_succ, List.getElem_cons_zero, List.setIfInBounds_toArray, List.set_cons_zero, List.set_cons_succ]
        refine wpAnyH_ready (rs := [4]) (by decide +kernel) (by simp) ?_
        refine AllReadyH.cons rfl (fun K hK => ?_) AllReadyH.nil
        go_simp
        (refine (HP2.out _ _ _ (DeedsAt.below hdg (by repeat (first | exact Below.refl _ _ | apply bs_later | apply bs_alloc | apply bs_drew | apply bs_drewN)))).mono ?_; rintro e w1 ⟨pv, rfl, hown, hb1⟩; obtain ⟨l3, d3, rfl⟩ := later_of hb1; have HO2 := Lib.hid hown; obtain ⟨pa1, pc1, hpv⟩ := own_form hown; subst hpv; clear hb1 hown)
        refine hK.out _ _ (range_below hr1 (by repeat (first | exact Below.refl _ _ | apply bs_later | apply bs_alloc | apply bs_drew | apply bs_drewN))) (fun hHeld => ?_)
        clear hK K
        try simp only [Act.put, List.getElem_toArray, List.getElem_cons_succ, List.getElem_cons_zero, List.setIfInBounds_toArray, List.set_cons_zero, List.set_cons_succ]
        refine wpAnyH_take (i := 5) (v := ?vqc5) rfl (by decide +kernel) (by decide +kernel) (by decide +kernel) (fun _ _ _ h => h) (Or.inl ⟨by rfl, ?yqc5⟩) (by assumption) ?rqc5
        case yqc5 => intro w hw; go_simp; with_reducible rfl
        try simp only [Act.put, List.getElem_toArray, List.getElem_cons_succ, List.getElem_cons_zero, List.setIfInBounds_toArray, List.set_cons_zero, List.set_cons_succ]
        refine wpAnyH_take (i := 6) (v := ?vqc6) rfl (by decide +kernel) (by decide +kernel) (by decide +kernel) (fun _ _ _ h => h) (Or.inl ⟨by rfl, ?yqc6⟩) (by assumption) ?rqc6
        case yqc6 => intro w hw; go_simp; with_reducible rfl
        try simp only [Act.put, List.getElem_toArray, List.getElem_cons_succ, List.getElem_cons_zero, List.setIfInBounds_toArray, List.set_cons_zero, List.set_cons_succ]
        refine wpAnyH_take (i := 7) (v := ?vqc7) rfl (by decide +kernel) (by decide +kernel) (by decide +kernel) (fun _ _ _ h => h) (Or.inl ⟨by rfl, ?yqc7⟩) (by assumption) ?rqc7
        case yqc7 => intro w hw; go_simp; with_reducible rfl
        try simp only [Act.put, List.getElem_toArray, List.getElem_cons_succ, List.getElem_cons_zero, List.setIfInBounds_toArray, List.set_cons_zero, List.set_cons_succ]
        refine wpAnyH_take (i := 8) (v := ?vqc8) rfl (by decide +kernel) (by decide +kernel) (by decide +kernel) (fun _ _ _ h => h) (Or.inl ⟨by rfl, ?yqc8⟩) (by assumption) ?rqc8
        case yqc8 => intro w hw; go_simp; with_reducible rfl
        try simp only [Act.put, List.getElem_toArray, List.getElem_cons_succ, List.getElem_cons_zero, List.setIfInBounds_toArray, List.set_cons_zero, List.set_cons_succ]
        refine wpAnyH_ready (rs := [10]) (by decide +kernel) (by simp) ?_
        refine AllReadyH.cons rfl (fun K hK => ?_) AllReadyH.nil
        rw [if_pos (by rfl)]
        refine wp_store_r 26 _ _ rfl _ rfl (memA om) rfl 64 (by kernel_rfl) (by (simp [go_sem, s2]; done)) (by (simp [s2]; done)) (memA_one _) ?_
        intro W hW; simp [go_sem] at hW; subst hW
        refine hK.out _ _ (range_below hr1 (by repeat (first | exact Below.refl _ _ | apply bs_later | apply bs_alloc | apply bs_drew | apply bs_drewN))) (fun hHeld => ?_)
        clear hK K
        try simp only [Act.put, List.getElem_toArray, List.getElem_cons_succ, List.getElem_cons_zero, List.setIfInBounds_toArray, List.set_cons_zero, List.set_cons_succ]
        refine wpAnyH_take (i := 11) (v := ?vqc11) rfl (by decide +kernel) (by decide +kernel) (by decide +kernel) (fun _ _ _ h => h) (Or.inl ⟨by rfl, ?yqc11⟩) (by assumption) ?rqc11
        case yqc11 => intro w hw; go_simp; with_reducible rfl
        try simp only [Act.put, List.getElem_toArray, List.getElem_cons_succ, List.getElem_cons_zero, List.setIfInBounds_toArray, List.set_cons_zero, List.set_cons_succ]
        refine wpAnyH_take (i := 12) (v := ?vqc12) rfl (by decide +kernel) (by decide +kernel) (by decide +kernel) (fun _ _ _ h => h) (Or.inl ⟨by rfl, ?yqc12⟩) (by assumption) ?rqc12
        case yqc12 => intro w hw; go_simp; with_reducible rfl
        try simp only [Act.put, List.getElem_toArray, List.getElem_cons_succ, List.getElem_cons_zero, List.setIfInBounds_toArray, List.set_cons_zero, List.set_cons_succ]
        refine wpAnyH_done (by decide +kernel) ?_ _
        go_wp2_with (fail)
        go_meet
        exact ⟨_, pc1, pa1, rfl, rfl, rfl, (by repeat (first | exact Below.refl _ _ | apply bs_later | apply bs_alloc | apply bs_drew | apply bs_drewN)), ⟨by simp [go_sem, s2], by simp [go_sem]⟩, (own_ints (own_swap (W1 := (wc.alloc (.cells (memA om) 26)).drew) HO2.out (Nat.le_refl _) (by simp))).2, fun h => by subst h; exact own_nil HO2.out⟩
    case rest =>
      obtain ⟨b2, pc3, pa3, rfl, rfl, rfl, hbw2, hM2, hI2, hN2⟩ := hcut
      obtain ⟨m7, q7⟩ := hM7.below hbw2
      obtain ⟨mz, qz⟩ := hM2
      have hIv2 := hIv.below hbw2
      have hI12 := hI1.below hbw2
      have hbe := below_trans hbw hbw2
      have i7 : inB wc (w.heap.size + 1 + l1.size + l2.size) := okRow_lt m7
      have iz : inB wc b2 := okRow_lt mz
      clear hbw2 hM7 hIv hI1 hbw hdg hr1 ha2
      go_wp2_with (first
        | (refine wpList_load_r rfl 26 _ rfl _ rfl 64 _ Try.underlying26 rfl (by kernel_rfl) (by (simp [go_sem, m7, mz]; done)) ?_; intro C hC; simp [go_sem, i7, iz, q7, qz] at hC; subst hC)
        | (refine wpList_load_w (by rfl) 26 _ rfl _ rfl 64 _ Try.underlying26 rfl (by kernel_rfl) (by (simp [go_sem, m7, mz]; done)) ?_; intro C hC; simp [go_sem, i7, iz, q7, qz] at hC; subst hC)
        | (go_at_call 54; refine (goods.good_ok _ _ _ _ (by decide) (two_ok (by simp))).mono ?_; rintro e w1 ⟨rfl, rfl⟩)
        | (go_at_call 55; refine (concat_two _ _ pa2 pa3 pc2 pc3 v1 v2 _ hv1 hv2 ?g1 ?g2 hN1 hN2 ?g3 ?g4).mono ?_; (case g1 => simp [go_sem]); (case g2 => simp [go_sem]); (case g3 => exact hI12.below (by repeat (first | exact Below.refl _ _ | apply bs_later | apply bs_alloc | apply bs_drew | apply bs_drewN))); (case g4 => exact hI2.below (by repeat (first | exact Below.refl _ _ | apply bs_later | apply bs_alloc | apply bs_drew | apply bs_drewN))); rintro e w1 ⟨cv, rfl, hown, hb1⟩; rw [HL.out] at hown; obtain ⟨l5, d5, rfl⟩ := later_of hb1; have HO3 := Lib.hid hown; obtain ⟨pa4, pc4, hpv⟩ := own_form hown; subst hpv; clear hb1 hown)
        | (go_at_call 31; refine (eqU64.equal_same _ _ _ _ _ ov ov rfl (by unfold maxLen; omega) ?g5 ?g6).mono ?_; (case g5 => exact hIv2.below (by repeat (first | exact Below.refl _ _ | apply bs_later | apply bs_alloc | apply bs_drew | apply bs_drewN))); (case g6 => exact (own_ints HO3.out).2); rintro e w1 ⟨rfl, nd, rfl⟩; rw [decide_eq_true rfl]))
      go_ret
      exact ⟨rfl, by repeat (first | exact hbe | apply bs_later | apply bs_alloc | apply bs_drew | apply bs_drewN)⟩

theorem walk {H : Type} {enc : TypeId × Value → H} {dd : DataW H} {pp : List MemPlace} (xs : List Int) (a : Option Addr) (n c : Nat) (k : Int) (w : World) (hl : xs.length = 64) (wx : ∀ x ∈ xs, (Lit.int .u64 x).wf = true)
    (k1 : DataW.Trod enc Try.prog w 0 (fun _ => true) true 60 (.slice a n c) dd pp) (wk : (Lit.int .i64 k).wf = true) :
    Calls Try.prog 11 #[.agg (xs.map (Value.int .u64)).toArray, .slice a n c, .int .i64 k] w (Ret (.bool true) w) := by
  obtain ⟨h1, h2, h3, ds, hd, hds, hok⟩ := open_deeds (m := 4) Try.underlying60 (by kernel_rfl) (by kernel_rfl) k1
  by_cases hb : ¬ playE ds = 0 ∨ k < 0 ∨ (n : Int) < k
  · exact walk_bad xs hl ds a n c k w (Nat.le_trans h1 h2) hd hds hb
  · obtain ⟨K, rfl⟩ := Int.eq_ofNat_of_zero_le (show 0 ≤ k by omega)
    exact walk_ok xs hl wx ds hok a n c K w (Nat.le_trans h1 h2) h1 h2 hd h3 hds (Classical.byContradiction fun h => hb (.inl h)) (by omega)

-- the frame, by program
set_option maxRecDepth 100000 in
theorem lifted (os : Os) (started : os.Started) (H : Type) (enc : TypeId × Value → H) :
    ReturnsInHanded {} Try.checked os 11 .any (Rows.atomicCutsSpec.pre6 enc Try.prog Try.f11 Rows.atomicCutsRow.domain false) (Rows.atomicCutsSpec.post enc Try.prog Try.f11 false true false false) := by
  refine returnsInHanded_of_change (C := Try.checked) own started (by kernel_rfl) Try.func11
    (ChangeSpec.witness6 (enc := enc) (C := Try.checked) false ⟨#[], #[.agg (Array.replicate 64 (.int .u64 0)), .slice none 0 0, .int .i64 0], []⟩ 8 (by kernel_rfl) (by kernel_rfl) (by kernel_rfl) (by kernel_rfl)) ?_
  intro W base args ds gs before hval0 hW hcnd _
  have hval : ∀ (j : Nat) t v, Try.f11.params[j]? = some t → args[j]? = some v → Value.okWide Try.prog W .any base t v := hval0
  have hW' := hW
  obtain ⟨p, q, hA0, hV, rfl, hfz, hnd⟩ := hW
  have hA : DataW.TrodAll enc Try.prog W 0 (fun _ => true) true Try.f11.params.toList args.toList ds p := hA0
  rw [Try.params11] at hA hval
  obtain ⟨v0, vs0, d0, ds0, p0, q0, hargs, rfl, rfl, h0, r0⟩ := trodAll_cons hA
  obtain ⟨v1, vs1, d1, ds1, p1, q1, rfl, rfl, rfl, h1, r1⟩ := trodAll_cons r0
  obtain ⟨v2, vs2, d2, ds2, p2, q2, rfl, rfl, rfl, h2, r2⟩ := trodAll_cons r1
  obtain ⟨rfl, rfl, rfl⟩ := trodAll_nil r2
  obtain rfl : args = #[v0, v1, v2] := by cases args; simp_all
  obtain ⟨rfl, rfl⟩ := trodVars_none hV
  have k0 := h0
  have lt0 : ∀ x ∈ p0, x.block < W.heap.size := by obtain ⟨m, hm⟩ := k0; exact DataW.trod_lt m _ _ _ hm
  have k1 := h1
  have lt1 : ∀ x ∈ p1, x.block < W.heap.size := by obtain ⟨m, hm⟩ := k1; exact DataW.trod_lt m _ _ _ hm
  have k2 := h2
  have lt2 : ∀ x ∈ p2, x.block < W.heap.size := by obtain ⟨m, hm⟩ := k2; exact DataW.trod_lt m _ _ _ hm
  obtain ⟨cs0, rfl, al0⟩ := open_flat (n := 4) (List.replicate 64 (.int .u64)) (by kernel_rfl) (by kernel_rfl) (.inr ⟨_, _, Try.underlying26⟩) (hval 0 26 v0 rfl rfl) h0
  obtain ⟨a0, l0, rfl, w0⟩ := all2_ints al0
  obtain ⟨a1, len1, cap1, rfl⟩ := okWide_slice Try.underlying60 (hval 1 60 v1 rfl rfl)
  obtain ⟨a2, rfl, rfl, rfl, w2⟩ := open_int Try.underlying3 (hval 2 3 v2 rfl rfl) h2
  clear hA0 hval0
  refine (walk a0 a1 len1 cap1 a2 W l0 w0 k1 w2).mono fun e W' ⟨he, bel⟩ => ?_
  subst he
  exact ⟨_, rfl, _, _, _, [], _, [], hW', trodAll_mk1 (shut_bool Try.underlying4 _), (trodAll_cons_mk (Below.trod laidOut (by kernel_rfl) (of_decide_eq_true (by kernel_rfl)) k0 bel lt0) (trodAll_cons_mk (Below.trod laidOut (by kernel_rfl) (of_decide_eq_true (by kernel_rfl)) k1 bel lt1) (trodAll_cons_mk (Below.trod laidOut (by kernel_rfl) (of_decide_eq_true (by kernel_rfl)) k2 bel lt2) trodAll_mk0))), rfl, bel.frame _, fun h => by cases h⟩

theorem over : Rows.atomicCutsRow.holds Try.pinned (OpenSpec.ofChange Rows.atomicCutsSpec) :=
  OpenClaim.holds_of_wide 11 Try.f11 rfl rfl rfl rfl rfl rfl rfl ⟨rfl, rfl, rfl, rfl, rfl⟩ rfl rfl rfl rfl rfl (by kernel_rfl) Try.func11 (by kernel_rfl)
    (of_decide_eq_true (by kernel_rfl)) (by unfold Func.isWrapper; first | (rw [if_pos (by decide +kernel)]; kernel_rfl) | (rw [if_neg (by decide +kernel)]; exact ⟨rfl, rfl⟩))
    (fun os started H enc _ => lifted os started H enc)

theorem proved : Rows.AtomicCutsSaid := over

end Go.Proofs.Ytffhfpdmfegcpab.atomicCuts
