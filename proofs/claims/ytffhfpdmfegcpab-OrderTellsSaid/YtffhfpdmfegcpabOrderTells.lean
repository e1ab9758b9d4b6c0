/- ringdovelaw.OrderTells: for every memory, every programs and everything told, the call returns true. -/
import Derived.Test.YtffhfpdmfegcpabOrderLaw
import Derived.Test.YtffhfpdmfegcpabRefAtomic
import Derived.Test.YtffhfpdmfegcpabDeedRow
import Derived.Deep.DeepCutAuto
namespace Go.Proofs.Ytffhfpdmfegcpab.orderTells
open Go.ChangeShapes Go.WideShapes Go.ChangeAt Go.RowKit
open Go.Joins (ownsRow_le)
open Go.ChangeMaps (open_string shut_string)
open Go.Proofs.Ytffhfpdmfegcpab.base Go.Proofs.Ytffhfpdmfegcpab.knob Go.Proofs.Ytffhfpdmfegcpab.flat Go.Proofs.Ytffhfpdmfegcpab.same Go.Proofs.Ytffhfpdmfegcpab.addr Go.Proofs.Ytffhfpdmfegcpab.bank Go.Proofs.Ytffhfpdmfegcpab.atomic Go.Proofs.Ytffhfpdmfegcpab.table Go.Proofs.Ytffhfpdmfegcpab.play Go.Proofs.Ytffhfpdmfegcpab.memEq Go.Proofs.Ytffhfpdmfegcpab.refAtomic Go.Proofs.Ytffhfpdmfegcpab.told Go.Proofs.Ytffhfpdmfegcpab.eqDeed Go.Proofs.Ytffhfpdmfegcpab.range
set_option linter.unusedVariables false
set_option linter.unusedSimpArgs false

theorem keepsE_bad {ps : List (List D4)} {ts : List T5} (h : ¬ toldE 200 ts = 0) : keepsE ps ts = toldE 200 ts := if_neg h
theorem keepsE_ok {ps : List (List D4)} {ts : List T5} (h : toldE 200 ts = 0) : keepsE ps ts = if 8 < ps.length then 3 else 0 := if_pos h

set_option maxHeartbeats 4000000 in
set_option maxRecDepth 100000 in
theorem walk_bad (xs : List Int) (hl : xs.length = 64) (ps : List (List D4)) (pa : Option Addr) (pn pc : Nat) (ts : List T5) (a : Option Addr) (n c : Nat) (w : World) (hpn : ps.length = pn) (hpm : pn ≤ maxLen) (hm : n ≤ maxLen) (hd : ts.length = n) (h : ToldsAt w a ts) (hb : ¬ toldE 200 ts = 0) :
    Calls Try.prog 7 #[.agg (memA xs), .slice pa pn pc, .slice a n c] w (Ret (.bool true) w) := by
  have PL := fun w (h : ToldsAt w a ts) => legal_any xs hl ts a n c w hm hd h
  have PK := fun w (h : ToldsAt w a ts) => keeps_bad ps pa pn pc ts a n c w hpn hpm hm hd h (by rw [keepsE_bad hb]; exact hb)
  have PF := fun w (h : ToldsAt w a ts) => toldFault_any ts 200 (by decide) a n c w hm hd h
  rw [show legalR xs ts = false from if_neg hb] at PL
  rw [keepsE_bad hb] at PK
  have hb' : (toldE 200 ts != 0) = true := by simpa using hb
  have hb2 : (toldE 200 ts == 0) = false := by simpa using hb
  have s1 : (memA xs).size = 64 := by rw [size_memA, hl]
  generalize toldE 200 ts = te at *
  have HL := Lib.hid PL
  have HK := Lib.hid PK
  have HF := Lib.hid PF
  have HT := Lib.hid h
  clear PL PK PF h hb hd hpn hl
  go_enter Try.func7, Try.ntmps7
  go_wp2_with (first
    | (refine wpList_load_r rfl 26 _ rfl _ rfl 64 _ Try.underlying26 rfl (by kernel_rfl) (by (simp [go_sem, s1]; done)) ?_; intro C hC; simp [go_sem] at hC; subst hC)
    | (go_at_call 36; refine (HL.out _ (ToldsAt.below HT.out (by repeat (first | exact Below.refl _ _ | apply bs_later | apply bs_alloc | apply bs_drew | apply bs_drewN)))).mono ?_; rintro e w1 ⟨rfl, hb1⟩; obtain ⟨l1, d1, rfl⟩ := later_of hb1; clear hb1)
    | (go_at_call 37; refine (HK.out _ (ToldsAt.below HT.out (by repeat (first | exact Below.refl _ _ | apply bs_later | apply bs_alloc | apply bs_drew | apply bs_drewN)))).mono ?_; rintro e w1 ⟨rfl, hb1⟩; obtain ⟨l2, d2, rfl⟩ := later_of hb1; clear hb1)
    | (go_at_call 38; refine (HF.out _ (ToldsAt.below HT.out (by repeat (first | exact Below.refl _ _ | apply bs_later | apply bs_alloc | apply bs_drew | apply bs_drewN)))).mono ?_; rintro e w1 ⟨rfl, hb1⟩; obtain ⟨l3, d3, rfl⟩ := later_of hb1; clear hb1))
  go_ret
  exact ⟨rfl, (by repeat (first | exact Below.refl _ _ | apply bs_later | apply bs_alloc | apply bs_drew | apply bs_drewN))⟩

theorem lists_below {w w' : World} {a : Option Addr} {ps : List (List D4)} (h : ListsAt DeedsAt w a ps) (hb : Below w.heap.size w w') : ListsAt DeedsAt w' a ps :=
  ListsAt.below (Q := DeedsAt) (fun {w w' a l} hb h => table.DeedsAt.below h hb) h hb
/-- the law's own memory lies behind a world that came of w -/
def MidO (xs : List Int) (w : World) (s12 s13 : Value) (wx : World) : Prop :=
  ∃ W0 : World, Below w.heap.size w W0 ∧ s12 = .bool true ∧ s13 = .pointer (some ⟨W0.heap.size, 0, none⟩) ∧ wx = W0.alloc (.cells (memA xs) 26)
theorem mine_ok {K : Nat} {ts : List T5} (h : ∀ x ∈ ts, x.Ok) : ∀ y ∈ mine K ts, y.Ok := fun y hy => by
  obtain ⟨x, hx, rfl⟩ := mine_mem hy
  exact (h x hx).1
def Rel2 (ps : List (List D4)) (ts : List T5) (W1 : World) (s i : Value) (wr : World) : Prop :=
  ∃ (k : Nat) (l : Array Obj) (d : Nat), k ≤ 8 ∧ i = .int .i64 k ∧ s = .bool (uptoB ps ts k) ∧ wr = W1.later l d
def Rel3 (K : Nat) (ts : List T5) (W2 : World) (v i : Value) (wr : World) : Prop :=
  ∃ (j : Nat) (l : Array Obj) (d m : Nat), j ≤ ts.length ∧ i = .int .i64 j ∧ wr = W2.later l d ∧ m = (mine K (ts.take j)).length ∧ wr.ownsRow W2.heap.size 56 4 v m (cellsOf (mine K (ts.take j)))
def Rel1 (xs : List Int) (ts : List T5) (W0 : World) (s i : Value) (wr : World) : Prop :=
  ∃ (k : Nat) (l : Array Obj) (d : Nat), k ≤ ts.length ∧ i = .int .i64 k ∧ s = .bool (legalB xs (ts.take k)) ∧ wr = (W0.alloc (.cells (memA (memT xs (ts.take k))) 26)).later l d

set_option maxHeartbeats 2000000 in
set_option maxRecDepth 100000 in
theorem walk_ok (xs : List Int) (hl : xs.length = 64) (ps : List (List D4)) (hps : ∀ p ∈ ps, ∀ x ∈ p, x.Ok) (pa : Option Addr) (pn pc : Nat) (ts : List T5) (hts : ∀ x ∈ ts, x.Ok) (a : Option Addr) (n c : Nat) (w : World) (hpn : ps.length = pn) (hpm : pn ≤ maxLen) (hP : ListsAt DeedsAt w pa ps) (hm : n ≤ maxLen) (hd : ts.length = n) (h : ToldsAt w a ts) (h0 : toldE 200 ts = 0) :
    Calls Try.prog 7 #[.agg (memA xs), .slice pa pn pc, .slice a n c] w (Ret (.bool true) w) := by
  have PL := fun w (h : ToldsAt w a ts) => legal_any xs hl ts a n c w hm hd h
  have PF := fun w (h : ToldsAt w a ts) => toldFault_any ts 200 (by decide) a n c w hm hd h
  rw [show legalR xs ts = legalB xs ts from if_pos h0, h0] at PL
  rw [h0] at PF
  have hn : n ≤ 200 := by
    unfold toldE at h0
    split at h0
    · omega
    · omega
  have hf : ∀ x ∈ ts.map (·.d), badOf x = 0 := firstBad_mem (by unfold toldE at h0; rw [if_neg (by omega)] at h0; exact h0)
  have s1 : (memA xs).size = 64 := by rw [size_memA, hl]
  have PK : ∃ (kb : Bool) (ke : Int), (∀ w, ToldsAt w a ts → ListsAt DeedsAt w pa ps → Calls Try.prog 37 #[.slice pa pn pc, .slice a n c] w (Ret (.tuple #[.bool kb, .int .i64 ke]) w)) ∧ ((8 < pn ∧ kb = false ∧ ke = 3) ∨ (pn ≤ 8 ∧ kb = keepsB ps ts ∧ ke = 0)) := by
    by_cases h8 : 8 < pn
    · refine ⟨false, 3, fun w h1 h2 => ?_, .inl ⟨h8, rfl, rfl⟩⟩
      have := keeps_bad ps pa pn pc ts a n c w hpn hpm hm hd h1 (by rw [keepsE_ok h0, if_pos (by omega)]; decide)
      rw [keepsE_ok h0, if_pos (by omega)] at this
      exact this
    · exact ⟨keepsB ps ts, 0, fun w h1 h2 => keeps_ok ps hps pa pn pc ts hts a n c w hpn (by omega) h2 hm hd h1 h0, .inr ⟨by omega, rfl, rfl⟩⟩
  obtain ⟨kb, ke, PK, hkc⟩ := PK
  have HL := Lib.hid PL
  have HK := Lib.hid PK
  have HF := Lib.hid PF
  have HT := Lib.hid h
  have HP := Lib.hid hP
  have HKC := Lib.hid hkc
  have HBAD := Lib.hid hf
  have HDL := Lib.hid hd
  have HPL := Lib.hid hpn
  have HPS := Lib.hid hps
  have HTS := Lib.hid hts
  have HX := Lib.hid hl
  clear PL PK PF h hP hkc hf hd hpn hps hts hl h0
  unfold maxLen at hpm
  go_enter Try.func7, Try.ntmps7
  go_wp2_with (first
    | (refine wpList_load_r rfl 26 _ rfl _ rfl 64 _ Try.underlying26 rfl (by kernel_rfl) (by (simp [go_sem, s1]; done)) ?_; intro C hC; simp [go_sem] at hC; subst hC)
    | (refine wpList_store_r rfl 26 _ _ rfl _ rfl _ rfl 64 (by kernel_rfl) (by (simp [go_sem, s1]; done)) (by (simp [s1]; done)) (memA_one _) ?_; intro W hW; simp [go_sem] at hW; subst hW)
    | (go_at_call 36; refine (HL.out _ (ToldsAt.below HT.out (by repeat (first | exact Below.refl _ _ | apply bs_later | apply bs_alloc | apply bs_drew | apply bs_drewN)))).mono ?_; rintro e w1 ⟨rfl, hb1⟩; obtain ⟨l1, d1, rfl⟩ := later_of hb1; clear hb1)
    | (go_at_call 37; refine (HK.out _ (ToldsAt.below HT.out (by repeat (first | exact Below.refl _ _ | apply bs_later | apply bs_alloc | apply bs_drew | apply bs_drewN))) (lists_below HP.out (by repeat (first | exact Below.refl _ _ | apply bs_later | apply bs_alloc | apply bs_drew | apply bs_drewN)))).mono ?_; rintro e w1 ⟨rfl, hb1⟩; obtain ⟨l2, d2, rfl⟩ := later_of hb1; clear hb1)
    | (go_at_call 38; refine (HF.out _ (ToldsAt.below HT.out (by repeat (first | exact Below.refl _ _ | apply bs_later | apply bs_alloc | apply bs_drew | apply bs_drewN)))).mono ?_; rintro e w1 ⟨rfl, hb1⟩; obtain ⟨l3, d3, rfl⟩ := later_of hb1; clear hb1))
  go_cut [12, 13] (fun c12 c13 wx => MidO xs w c12 c13 wx)
  case first =>
    have hu26 := Try.underlying26
    have hr0 : (((w.alloc (.cells (memA xs) 26)).later l1 d1).later l2 d2).rangeAt w.heap.size 0 (xs.map (Value.int .u64)) := range_mem ⟨by simp [go_sem, s1], by simp [go_sem]⟩
    have hi1 : (Try.prog.info? 26).map (·.size) = some (xs.map (Value.int .u64)).length := by rw [List.length_map, HX.out]; kernel_rfl
    refine wp_region_held_drew (S := fun w' => w'.rangeAt w.heap.size 0 (xs.map (Value.int .u64))) (by kernel_rfl) (range_below hr0 (by repeat (first | exact Below.refl _ _ | apply bs_drew | apply bs_drewN | apply bs_alloc | apply bs_later))) (fun hHeld => ?_)
    refine wpAnyH_take (i := 0) rfl (by decide +kernel) (by decide +kernel) (by decide +kernel) (fun _ _ _ h => h) (yieldsIf_load_mid (by rfl) _ _ rfl _ _ rfl _ _ (fun w hw => hw) hu26 rfl hi1) (by assumption) ?_
    try simp only [Act.put, List.getElem_toArray, List.getElem_cons_succ, List.getElem_cons_zero, List.setIfInBounds_toArray, List.set_cons_zero, List.set_cons_succ]
    refine wpAnyH_ready (rs := [1]) (by decide +kernel) (by simp) ?_
    refine AllReadyH.cons rfl (fun K hK => ?_) AllReadyH.nil
    go_simp
    refine hK.out _ _ (range_below hr0 (by repeat (first | exact Below.refl _ _ | apply bs_drew | apply bs_drewN | apply bs_alloc | apply bs_later))) (fun hHeld => ?_)
    clear hK K
    try simp only [Act.put, List.getElem_toArray, List.getElem_cons_succ, List.getElem_cons_zero, List.setIfInBounds_toArray, List.set_cons_zero, List.set_cons_succ]
    refine wpAnyH_take (i := 2) (v := ?v2) rfl (by decide +kernel) (by decide +kernel) (by decide +kernel) (fun _ _ _ h => h) (Or.inl ⟨by rfl, ?y2⟩) (by assumption) ?r2
    case y2 => intro w hw; go_simp; with_reducible rfl
    try simp only [Act.put, List.getElem_toArray, List.getElem_cons_succ, List.getElem_cons_zero, List.setIfInBounds_toArray, List.set_cons_zero, List.set_cons_succ]
    refine wpAnyH_ready (rs := [3]) (by decide +kernel) (by simp) ?_
    refine AllReadyH.cons rfl (fun K hK => ?_) AllReadyH.nil
    rw [if_pos (by rfl)]
    refine wp_store_r 26 _ _ rfl _ rfl (memA xs) rfl 64 (by kernel_rfl) (by (simp [go_sem, s1]; done)) (by (simp [s1]; done)) (memA_one _) ?_
    intro W hW; simp [go_sem] at hW; subst hW
    refine hK.out _ _ (range_below hr0 (by repeat (first | exact Below.refl _ _ | apply bs_drew | apply bs_drewN | apply bs_alloc | apply bs_later))) (fun hHeld => ?_)
    clear hK K
    try simp only [Act.put, List.getElem_toArray, List.getElem_cons_succ, List.getElem_cons_zero, List.setIfInBounds_toArray, List.set_cons_zero, List.set_cons_succ]
    refine wpAnyH_done (by decide +kernel) ?_ _
    go_wp2_with (fail)
    go_meet
    exact ⟨((((w.alloc (.cells (memA xs) 26)).later l1 d1).later l2 d2).later l3 d3).drew, (by repeat (first | exact Below.refl _ _ | apply bs_drew | apply bs_drewN | apply bs_alloc | apply bs_later)), rfl, by simp, rfl⟩
  case rest =>
    obtain ⟨W0, hb0, rfl, rfl, rfl⟩ := hcut
    have HT0 := Lib.hid (ToldsAt.below HT.out hb0)
    have HP0 := Lib.hid (lists_below HP.out hb0)
    have HB0 := Lib.hid hb0
    clear HT HP hb0
    go_wp2
    go_loopw [12, 59] (Rel1 xs ts W0) (fun _ i _ => n - (intOf i).toNat)
    case atStart => exact ⟨0, #[], _, by omega, rfl, rfl, later_zero _⟩
    case round =>
      obtain ⟨k, l, d, hk, rfl, rfl, rfl⟩ := hrel
      by_cases hlt : k < n
      · obtain ⟨x, hx⟩ := get_some (xs := ts) (k := k) (by rw [HDL.out]; exact hlt)
        have ht := HT0.out
        obtain ⟨b, off, rfl⟩ := ToldsAt.form ht hx
        obtain ⟨c0, c1, c2, c3, c4⟩ := ToldsAt.at ht hx
        have hin : inB W0 b := range.lt_of_cell c0
        have hbad := right_pos (HBAD.out x.d (List.mem_map.2 ⟨x, List.mem_of_getElem? hx, rfl⟩))
        have hml : (memT xs (ts.take k)).length = 64 := by rw [memT_len, HX.out]
        have eM : memT xs (ts.take (k + 1)) = plainM (memT xs (ts.take k)) x.d.k x.d.a x.d.v := by rw [take_snoc hx, memT_snoc]
        have eL : legalB xs (ts.take (k + 1)) = (legalB xs (ts.take k) && decide (plainV (memT xs (ts.take k)) x.d.k x.d.a = x.u)) := by rw [take_snoc hx, legalB_snoc]
        have s2 : (memA (memT xs (ts.take k))).size = 64 := by rw [size_memA, hml]
        have s3 : (memA (plainM (memT xs (ts.take k)) x.d.k x.d.a x.d.v)).size = 64 := by rw [size_memA, plainM_len, hml]
        have P := fun w => plain_ok (memT xs (ts.take k)) hml x.d.n x.d.k x.d.a x.d.v w hbad.2.1 hbad.2.2.1.1 hbad.2.2.1.2
        have HKL : Hid (k + 1 ≤ ts.length) := Lib.hid (by rw [HDL.out]; exact hlt)
        obtain ⟨⟨xn, xk, xa, xv⟩, xu⟩ := x
        simp only at c0 c1 c2 c3 c4 eM eL P s3
        generalize plainM (memT xs (ts.take k)) xk xa xv = zs at *
        generalize plainV (memT xs (ts.take k)) xk xa = z at *
        generalize memT xs (ts.take k) = ys at *
        generalize legalB xs (ts.take k) = lg at *
        have HPP := Lib.hid P
        have HM := Lib.hid eM
        have HLL := Lib.hid eL
        have hzz : (z == xu) = decide (z = xu) := rfl
        clear P eM eL ht hx hbad hml hk
        have hcase : lg = true ∨ lg = false := by cases lg <;> simp
        rcases hcase with rfl | rfl
        all_goals
          go_wp2_with (first
            | (refine wpList_load_r rfl 26 _ rfl _ rfl 64 _ Try.underlying26 rfl (by kernel_rfl) (by (simp [go_sem, s2, s3]; done)) ?_; intro C hC; simp [go_sem] at hC; subst hC)
            | (refine wpList_store_r rfl 26 _ _ rfl _ rfl _ rfl 64 (by kernel_rfl) (by (simp [go_sem, s2, s3]; done)) (by (simp [s2, s3]; done)) (memA_one _) ?_; intro W hW; simp [go_sem] at hW; subst hW)
            | (go_at_call 30; refine (HPP.out _).mono ?_; rintro e w1 ⟨rfl, hb1⟩; obtain ⟨l4, d4, rfl⟩ := later_of hb1; clear hb1))
          rw [later_alloc _ l, later_later, later_alloc]
          go_roundw
          case rel => exact ⟨k + 1, _, _, HKL.out, by go_num, by rw [HLL.out]; simp, by rw [HM.out]⟩
          case measure => simp [intOf]; omega
      · obtain rfl : k = n := by have := HDL.out; omega
        have hT : ts.take k = ts := List.take_of_length_le (by rw [HDL.out]; omega)
        rw [hT]
        have s2 : (memA (memT xs ts)).size = 64 := by rw [size_memA, memT_len, HX.out]
        have hbe : ∀ z : Bool, (z != z) = false := fun z => by cases z <;> rfl
        rcases HKC.out with ⟨h8, rfl, rfl⟩ | ⟨h8, rfl, rfl⟩
        · have h8' : (8 : Int) < pn := by omega
          clear hT
          go_wp2
          go_ret
          exact ⟨rfl, below_trans HB0.out (by repeat (first | exact Below.refl _ _ | apply bs_later | apply bs_alloc | apply bs_drew | apply bs_drewN))⟩
        · have h8' : ¬ (8 : Int) < pn := by omega
          clear hT
          go_wp2
          have hb1 : Below W0.heap.size W0 ((W0.alloc (.cells (memA (memT xs ts)) 26)).later l d) := (by repeat (first | exact Below.refl _ _ | apply bs_later | apply bs_alloc | apply bs_drew | apply bs_drewN))
          have HT1 := Lib.hid (ToldsAt.below HT0.out hb1)
          have HP1 := Lib.hid (lists_below HP0.out hb1)
          have HB1 := Lib.hid (below_trans HB0.out hb1)
          clear hb1
          have hlaw := order_law (ps := ps) (ts := ts) (fun x hx => (right_pos (HBAD.out x.d (List.mem_map.2 ⟨x, hx, rfl⟩))).1)
          rw [hlaw]
          have HLAW := Lib.hid hlaw
          clear hlaw
          generalize (W0.alloc (.cells (memA (memT xs ts)) 26)).later l d = W1 at *
          obtain ⟨i0, hi, hz0, hz1, hz2⟩ := info_parts info_deed
          go_loopw [18, 95] (Rel2 ps ts W1) (fun _ i _ => 8 - (intOf i).toNat)
          case atStart => exact ⟨0, #[], _, by omega, rfl, by rw [uptoB_zero], later_zero _⟩
          case round =>
            clear l d
            obtain ⟨K2, l, d, hK8, rfl, rfl, rfl⟩ := hrel
            by_cases hltK : K2 < 8
            · go_wp2
              go_loopw [20, 100] (Rel3 K2 ts (W1.later l d)) (fun _ i _ => k - (intOf i).toNat)
              case atStart => exact ⟨0, #[], _, 0, by omega, rfl, later_zero _, rfl, World.ownsRow_nil _ _ _ _⟩
              case round =>
                obtain ⟨j, l5, d5, m, hj, rfl, rfl, hm2, hown⟩ := hrel
                by_cases hltj : j < k
                · obtain ⟨x, hx⟩ := get_some (xs := ts) (k := j) (by have := HDL.out; omega)
                  have ht := HT1.out
                  obtain ⟨b, off, rfl⟩ := ToldsAt.form ht hx
                  obtain ⟨c0, c1, c2, c3, c4⟩ := ToldsAt.at ht hx
                  have hin : inB W1 b := range.lt_of_cell c0
                  have eS : mine K2 (ts.take (j + 1)) = mine K2 (ts.take j) ++ if x.d.n = (K2 : Int) then [x.d] else [] := by rw [take_snoc hx, mine_snoc]
                  have hml : m ≤ 200 := by
                    have h1 := mine_le K2 (ts.take j)
                    have h2 : (ts.take j).length ≤ j := by rw [List.length_take]; omega
                    have := HDL.out
                    omega
                  have HJ : Hid (j + 1 ≤ ts.length) := Lib.hid (by have := HDL.out; omega)
                  have HO := Lib.hid hown
                  have HM2 := Lib.hid hm2
                  obtain ⟨sa, sc, hv⟩ := own_form hown
                  subst hv
                  obtain ⟨⟨xn, xk, xa, xv⟩, xu⟩ := x
                  simp only at c0 c1 c2 c3 c4 eS
                  clear hown hm2 hx ht hj
                  by_cases he : xn = (K2 : Int)
                  · have he' : (xn == (K2 : Int)) = true := by simpa using he
                    rw [if_pos he] at eS
                    have HS := Lib.hid eS
                    clear he eS
                    go_wp2_with (at_builtin; refine wpList_append_own _ rfl _ _ 60 rfl (W1.later l d).heap.size 56 i0 (.agg #[.int .i64 0, .int .i64 0, .int .i64 0, .int .u64 0]) 4 32 Try.underlying60 hi hz0 hz1 hz2 rfl (by decide) _ _ _ rfl ((HO.out.alloc _).alloc _) _ 1 1 [.int .i64 xn, .int .i64 xk, .int .i64 xa, .int .u64 xv] rfl rfl ?c1 ?c2 ?c3 ?c4 ?c5 ?_)
                    case c1 => exact four_new (by simp)
                    case c2 =>
                      intro u hu
                      simp at hu
                      rcases hu with rfl | rfl | rfl | rfl <;> rfl
                    case c3 => unfold maxLen; omega
                    case c4 => omega
                    case c5 => simp; omega
                    intro v' w1 hown' hgrow _
                    have hb : Below (W1.later l d).heap.size (W1.later l d) w1 :=
                      below_grown (by repeat (first | exact Below.refl _ _ | apply bs_later | apply bs_alloc | apply bs_drew | apply bs_drewN)) hgrow (fun g hg => (HO.out.lt g hg).1)
                    obtain ⟨l6, d6, rfl⟩ := later_of hb
                    have HO' := Lib.hid hown'
                    clear hb hgrow hown'
                    go_wp2
                    go_simp
                    refine ⟨⟨v', _, _, ⟨j + 1, l6, d6, m + 1, HJ.out, by go_num, rfl, by rw [HS.out, List.length_append, ← HM2.out]; rfl, by rw [HS.out, cellsOf_snoc, size_later]; exact HO'.out⟩, rfl, rfl, rfl⟩, by simp [intOf]; omega⟩
                  · have he' : (xn == (K2 : Int)) = false := by simpa using he
                    rw [if_neg he, List.append_nil] at eS
                    have HS := Lib.hid eS
                    clear he eS
                    go_wp2
                    rw [later_alloc _ l5]
                    go_roundw
                    case rel => exact ⟨j + 1, _, _, m, HJ.out, by go_num, rfl, by rw [HS.out]; exact HM2.out, by rw [HS.out, ← later_alloc]; exact HO.out.alloc _⟩
                    case measure => simp [intOf]; omega
                · obtain rfl : j = k := by have := HDL.out; omega
                  have hT : ts.take j = ts := List.take_of_length_le (by rw [HDL.out]; omega)
                  rw [hT] at hm2 hown
                  have hml : m ≤ 200 := by
                    have h1 := mine_le K2 ts
                    have := HDL.out
                    omega
                  have HO := Lib.hid hown
                  have HM2 := Lib.hid hm2
                  obtain ⟨sa, sc, hv⟩ := own_form hown
                  subst hv
                  clear hown hm2 hT hj hltj
                  by_cases hpK : K2 < pn
                  · obtain ⟨P, hP⟩ := get_some (xs := ps) (k := K2) (by rw [HPL.out]; exact hpK)
                    obtain ⟨bp, offp, rfl⟩ := ListsAt.form HP1.out hP
                    obtain ⟨qa, qc, hcell, hq1, hq2, hq3, hq4⟩ := ListsAt.at HP1.out hP
                    have hin2 : inB W1 bp := range.lt_of_cell hcell
                    have hpK' : (K2 : Int) < pn := by omega
                    have hhave : have_ ps K2 = P := by unfold have_; rw [List.getD_eq_getElem?_getD, hP]; rfl
                    unfold maxLen at hq2
                    have hcase : uptoB ps ts K2 = true ∨ uptoB ps ts K2 = false := by cases uptoB ps ts K2 <;> simp
                    rcases hcase with hup | hup
                    · rw [hup]
                      by_cases hle : m ≤ P.length
                      · have hle' : (m : Int) ≤ P.length := by omega
                        have hmin : min (m : Int) P.length = m := by omega
                        have hmin2 : min m P.length = m := by omega
                        have HE := Lib.hid (uptoB_next hup (by rw [hhave, ← HM2.out]; exact hle))
                        have hok := HPS.out P (List.mem_of_getElem? hP)
                        have HQ4 := Lib.hid hq4
                        rw [hhave, ← HM2.out] at HE
                        clear hq3 hq4 hup
                        go_wp2_with (go_at_call 35; refine (eqDeed.equal_n _ _ _ _ m _ (mine K2 ts) (P.take m) HM2.out.symm (by rw [List.length_take]; exact hmin2) (by unfold maxLen; omega) ?g1 ?g2 ?g3 ?g4).mono ?_; (case g1 => exact mine_ok HTS.out); (case g2 => exact fun y hy => hok y (List.mem_of_mem_take hy)); (case g3 => exact own_deeds (by have h := HO.out; rw [HM2.out] at h; exact h)); (case g4 => exact deeds_take ((DeedsAt.below HQ4.out (by repeat (first | exact Below.refl _ _ | apply bs_later | apply bs_alloc | apply bs_drew | apply bs_drewN))).below (by repeat (first | exact Below.refl _ _ | apply bs_later | apply bs_alloc | apply bs_drew | apply bs_drewN))) m); rintro e w1 ⟨rfl, nd, rfl⟩)
                        rw [later_later]
                        refine ⟨⟨K2 + 1, _, _, by omega, by go_num, by rw [HE.out], rfl⟩, by simp [intOf]; omega⟩
                      · have hle' : ¬ (m : Int) ≤ P.length := by omega
                        have HE := Lib.hid (uptoB_long (ps := ps) (ts := ts) (K := K2) (by rw [hhave, ← HM2.out]; omega))
                        clear hq3 hq4 hup
                        go_wp2
                        rw [later_later]
                        refine ⟨⟨K2 + 1, _, _, by omega, by go_num, by rw [HE.out], rfl⟩, by simp [intOf]; omega⟩
                    · rw [hup]
                      have HE := Lib.hid (uptoB_false hup)
                      clear hq3 hq4 hup
                      go_wp2
                      rw [later_later]
                      refine ⟨⟨K2 + 1, _, _, by omega, by go_num, by rw [HE.out], rfl⟩, by simp [intOf]; omega⟩
                  · have hpn2 : pn ≤ K2 := by omega
                    have hpK' : (pn : Int) ≤ K2 := by omega
                    have hhave : have_ ps K2 = [] := by unfold have_; rw [List.getD_eq_getElem?_getD, List.getElem?_eq_none (by rw [HPL.out]; omega)]; rfl
                    have hcase : uptoB ps ts K2 = true ∨ uptoB ps ts K2 = false := by cases uptoB ps ts K2 <;> simp
                    rcases hcase with hup | hup
                    · rw [hup]
                      by_cases hm0 : m = 0
                      · subst hm0
                        have HE := Lib.hid (uptoB_next hup (by rw [hhave, ← HM2.out]; exact Nat.le_refl _))
                        rw [hhave, List.take_nil] at HE
                        clear hup hhave
                        go_wp2_with (go_at_call 35; refine (eqDeed.equal_n _ _ _ _ 0 _ (mine K2 ts) [] HM2.out.symm rfl (Nat.zero_le _) ?g1 ?g2 ?g3 ?g4).mono ?_; (case g1 => exact mine_ok HTS.out); (case g2 => exact fun y hy => nomatch hy); (case g3 => exact own_deeds (by have h := HO.out; rw [HM2.out] at h; exact h)); (case g4 => exact .inl rfl); rintro e w1 ⟨rfl, nd, rfl⟩)
                        rw [later_later]
                        refine ⟨⟨K2 + 1, _, _, by omega, by go_num, by rw [HE.out], rfl⟩, by simp [intOf]; omega⟩
                      · have hle' : ¬ (m : Int) ≤ 0 := by omega
                        have HE := Lib.hid (uptoB_long (ps := ps) (ts := ts) (K := K2) (by rw [hhave, ← HM2.out]; simp; omega))
                        clear hup hhave
                        go_wp2
                        rw [later_later]
                        refine ⟨⟨K2 + 1, _, _, by omega, by go_num, by rw [HE.out], rfl⟩, by simp [intOf]; omega⟩
                    · rw [hup]
                      have HE := Lib.hid (uptoB_false hup)
                      clear hup hhave
                      go_wp2
                      rw [later_later]
                      refine ⟨⟨K2 + 1, _, _, by omega, by go_num, by rw [HE.out], rfl⟩, by simp [intOf]; omega⟩
            · obtain rfl : K2 = 8 := by omega
              have hbe2 : ∀ z : Bool, (z == z) = true := fun z => by cases z <;> rfl
              go_wp2
              go_ret
              exact ⟨rfl, below_trans HB1.out (by repeat (first | exact Below.refl _ _ | apply bs_later | apply bs_alloc | apply bs_drew | apply bs_drewN))⟩

theorem walk {H : Type} {enc : TypeId × Value → H} {dd1 dd2 : DataW H} {pp1 pp2 : List MemPlace} (xs : List Int) (pa : Option Addr) (pn pc : Nat) (a : Option Addr) (n c : Nat) (w : World) (hl : xs.length = 64) (wx : ∀ x ∈ xs, (Lit.int .u64 x).wf = true)
    (k1 : DataW.Trod enc Try.prog w 0 (fun _ => true) true 71 (.slice pa pn pc) dd1 pp1) (k2 : DataW.Trod enc Try.prog w 0 (fun _ => true) true 53 (.slice a n c) dd2 pp2) :
    Calls Try.prog 7 #[.agg (xs.map (Value.int .u64)).toArray, .slice pa pn pc, .slice a n c] w (Ret (.bool true) w) := by
  obtain ⟨p1, p2, _, ps, hpn, hP, hps⟩ := open_lists (Q := DeedsAt) (good := D4.Ok) Try.underlying71 Try.underlying60 (by kernel_rfl) (fun a len cap d ps h => open_deeds (m := 4) Try.underlying60 (by kernel_rfl) (by kernel_rfl) h) k1
  obtain ⟨h1, h2, _, ts, hd, hT, hts⟩ := open_tolds (m := 6) Try.underlying53 (by kernel_rfl) (by kernel_rfl) k2
  by_cases h0 : toldE 200 ts = 0
  · exact walk_ok xs hl ps hps pa pn pc ts hts a n c w hpn (Nat.le_trans p1 p2) hP (Nat.le_trans h1 h2) hd hT h0
  · exact walk_bad xs hl ps pa pn pc ts a n c w hpn (Nat.le_trans p1 p2) (Nat.le_trans h1 h2) hd hT h0

-- the frame, by program
set_option maxRecDepth 100000 in
theorem lifted (os : Os) (started : os.Started) (H : Type) (enc : TypeId × Value → H) :
    ReturnsInHanded {} Try.checked os 7 .any (Rows.orderTellsSpec.pre6 enc Try.prog Try.f7 Rows.orderTellsRow.domain false) (Rows.orderTellsSpec.post enc Try.prog Try.f7 false true false false) := by
  refine returnsInHanded_of_change (C := Try.checked) own started (by kernel_rfl) Try.func7
    (ChangeSpec.witness6 (enc := enc) (C := Try.checked) false ⟨#[], #[.agg (Array.replicate 64 (.int .u64 0)), .slice none 0 0, .slice none 0 0], []⟩ 8 (by kernel_rfl) (by kernel_rfl) (by kernel_rfl) (by kernel_rfl)) ?_
  intro W base args ds gs before hval0 hW hcnd _
  have hval : ∀ (j : Nat) t v, Try.f7.params[j]? = some t → args[j]? = some v → Value.okWide Try.prog W .any base t v := hval0
  have hW' := hW
  obtain ⟨p, q, hA0, hV, rfl, hfz, hnd⟩ := hW
  have hA : DataW.TrodAll enc Try.prog W 0 (fun _ => true) true Try.f7.params.toList args.toList ds p := hA0
  rw [Try.params7] at hA hval
  obtain ⟨v0, vs0, d0, ds0, p0, q0, hargs, rfl, rfl, h0, r0⟩ := trodAll_cons hA
  obtain ⟨v1, vs1, d1, ds1, p1, q1, rfl, rfl, rfl, h1, r1⟩ := trodAll_cons r0
  obtain ⟨v2, vs2, d2, ds2, p2, q2, rfl, rfl, rfl, h2, r2⟩ := trodAll_cons r1
  obtain ⟨rfl, rfl, rfl⟩ := trodAll_nil r2
  obtain rfl : args = #[v0, v1, v2] := by cases args; simp_all
  obtain ⟨rfl, rfl⟩ := trodVars_none hV
  have k0 := h0
  have lt0 : ∀ x ∈ p0, x.block < W.heap.size := by obtain ⟨m, hm⟩ := k0; exact DataW.trod_lt m _ _ _ hm
  have k1 := h1
  have lt1 : ∀ x ∈ p1, x.block < W.heap.size := by obtain ⟨m, hm⟩ := k1; exact DataW.trod_lt m _ _ _ hm
  have k2 := h2
  have lt2 : ∀ x ∈ p2, x.block < W.heap.size := by obtain ⟨m, hm⟩ := k2; exact DataW.trod_lt m _ _ _ hm
  obtain ⟨cs0, rfl, al0⟩ := open_flat (n := 4) (List.replicate 64 (.int .u64)) (by kernel_rfl) (by kernel_rfl) (.inr ⟨_, _, Try.underlying26⟩) (hval 0 26 v0 rfl rfl) h0
  obtain ⟨a0, l0, rfl, w0⟩ := all2_ints al0
  obtain ⟨a1, len1, cap1, rfl⟩ := okWide_slice Try.underlying71 (hval 1 71 v1 rfl rfl)
  obtain ⟨a2, len2, cap2, rfl⟩ := okWide_slice Try.underlying53 (hval 2 53 v2 rfl rfl)
  clear hA0 hval0
  refine (walk a0 a1 len1 cap1 a2 len2 cap2 W l0 w0 k1 k2).mono fun e W' ⟨he, bel⟩ => ?_
  subst he
  exact ⟨_, rfl, _, _, _, [], _, [], hW', trodAll_mk1 (shut_bool Try.underlying4 _), (trodAll_cons_mk (Below.trod laidOut (by kernel_rfl) (of_decide_eq_true (by kernel_rfl)) k0 bel lt0) (trodAll_cons_mk (Below.trod laidOut (by kernel_rfl) (of_decide_eq_true (by kernel_rfl)) k1 bel lt1) (trodAll_cons_mk (Below.trod laidOut (by kernel_rfl) (of_decide_eq_true (by kernel_rfl)) k2 bel lt2) trodAll_mk0))), rfl, bel.frame _, fun h => by cases h⟩

theorem over : Rows.orderTellsRow.holds Try.pinned (OpenSpec.ofChange Rows.orderTellsSpec) :=
  OpenClaim.holds_of_wide 7 Try.f7 rfl rfl rfl rfl rfl rfl rfl ⟨rfl, rfl, rfl, rfl, rfl⟩ rfl rfl rfl rfl rfl (by kernel_rfl) Try.func7 (by kernel_rfl)
    (of_decide_eq_true (by kernel_rfl)) (by unfold Func.isWrapper; first | (rw [if_pos (by decide +kernel)]; kernel_rfl) | (rw [if_neg (by decide +kernel)]; exact ⟨rfl, rfl⟩))
    (fun os started H enc _ => lifted os started H enc)

theorem proved : Rows.OrderTellsSaid := over

end Go.Proofs.Ytffhfpdmfegcpab.orderTells
