/- The contract of agree.Flat, at a world that is right. -/
import Derived.Test.YtffhfpdmfegcpacAgreeAsk
namespace Go.Proofs.Ytffhfpdmfegcpac.agree
open Go.ChangeShapes Go.WideShapes Go.ChangeAt Go.RowKit
open Go.Joins (ownsRow_le)
open Go.Proofs.Ytffhfpdmfegcpac.base Go.Proofs.Ytffhfpdmfegcpac.flat Go.Proofs.Ytffhfpdmfegcpac.table Go.Proofs.Ytffhfpdmfegcpac.prog Go.Proofs.Ytffhfpdmfegcpac.same Go.Proofs.Ytffhfpdmfegcpac.addr Go.Proofs.Ytffhfpdmfegcpac.bank Go.Proofs.Ytffhfpdmfegcpac.ways Go.Proofs.Ytffhfpdmfegcpac.state Go.Proofs.Ytffhfpdmfegcpac.turn Go.Proofs.Ytffhfpdmfegcpac.bankMore Go.Proofs.Ytffhfpdmfegcpac.memEq Go.Proofs.Ytffhfpdmfegcpac.atomic
open Go.Proofs.Ytffhfpdmfegcpac.range (range_below)
set_option linter.unusedVariables false
set_option linter.unusedSimpArgs false

def vAt (cs : Int) (hs : List (List R4)) (xs : List Int) (L i : Nat) : Int := valI xs L (holdL cs hs L) i
def flatK (z : List Int) (vf : Nat → Nat → Int) : Nat → List Int
  | 0 => z
  | k + 1 => lineM (flatK z vf k) k (vf k 0) (vf k 1) (vf k 2) (vf k 3)
theorem flatK_len {z : List Int} (vf : Nat → Nat → Int) (hz : z.length = 64) : ∀ k, (flatK z vf k).length = 64
  | 0 => hz
  | k + 1 => by unfold flatK; rw [lineM_len, flatK_len vf hz k]
theorem flatK_wf {z : List Int} {vf : Nat → Nat → Int} (hz : AllU z) (hv : ∀ L i, (Lit.int .u64 (vf L i)).wf = true) : ∀ k, AllU (flatK z vf k)
  | 0 => hz
  | k + 1 => by unfold flatK; exact lineM_wf (flatK_wf hz hv k) k (hv _ _) (hv _ _) (hv _ _) (hv _ _)
theorem wordAt_set {xs : List Int} {j i : Nat} (v : Int) (hj : j < xs.length) : wordAt (xs.set j v) i = if j = i then v else wordAt xs i := by
  by_cases h : j = i
  · subst h; simp [wordAt, hj]
  · simp [wordAt, h]
theorem flatK_word {z : List Int} {vf : Nat → Nat → Int} (hz : z.length = 64) : ∀ (k L i : Nat), L < k → k ≤ 16 → i < 4 → wordAt (flatK z vf k) (L * 4 + i) = vf L i
  | 0, L, i, h, _, _ => by omega
  | k + 1, L, i, h, hk, hi => by
    have hl := flatK_len vf hz k
    unfold flatK lineM
    rw [wordAt_set _ (by simp only [List.length_set]; omega), wordAt_set _ (by simp only [List.length_set]; omega), wordAt_set _ (by simp only [List.length_set]; omega), wordAt_set _ (by omega)]
    by_cases hL : L = k
    · subst hL
      obtain rfl | rfl | rfl | rfl : i = 0 ∨ i = 1 ∨ i = 2 ∨ i = 3 := by omega
      · rw [if_neg (by omega), if_neg (by omega), if_neg (by omega), if_pos (by omega)]
      · rw [if_neg (by omega), if_neg (by omega), if_pos (by omega)]
      · rw [if_neg (by omega), if_pos (by omega)]
      · rw [if_pos (by omega)]
    · rw [if_neg (by omega), if_neg (by omega), if_neg (by omega), if_neg (by omega)]
      exact flatK_word hz k L i (by omega) (by omega) hi
def RelV (cn cs cy cb : Int) (CS : List Value) (z : List Int) (vf : Nat → Nat → Int) (g : Nat) (w : World) (i : Value) (wr : World) : Prop :=
  ∃ (k : Nat) (R : Array Value) (o1 : Array Obj) (d2 : Nat) (o : Array Obj) (d : Nat), k ≤ 16 ∧ i = .int .i64 k ∧ wr = ((((((w.alloc (.cells #[.int .i64 cn, .int .i64 cs, .int .i64 cy, .int .i64 cb] 54)).alloc (.cells CS.toArray 57)).alloc (.cells R 26)).later o1 d2)).alloc (.cells (memA (flatK z vf k)) 26)).later o d ∧ R.size = 64 ∧ g = w.heap.size + 1 + 1 + 1 + o1.size

set_option maxHeartbeats 8000000 in
set_option maxRecDepth 100000 in
theorem flat_ok (cn cs cy cb : Int) (xs : List Int) (hxl : xs.length = 64) (wx : AllU xs) (hs : List (List R4)) (hok : ∀ h ∈ hs, ∀ r ∈ h, r.Ok) (ca : Option Addr) (n cc : Nat) (w : World) (hn : hs.length = n) (hm : n ≤ maxLen) (hH : CachesAt w ca hs) (hE : (agreeP cn cs cy cb hs xs).1 = 0) :
    Calls Try.prog 23 #[.agg #[.int .i64 cn, .int .i64 cs, .int .i64 cy, .int .i64 cb], .agg (worldA ca n cc xs)] w (Ret (.tuple #[.agg (memA (flatK zeroXs (vAt cs hs xs) 16)), .int .i64 0]) w) := by
  have PF := fun w h => checkW_any cn cs cy cb xs hxl wx hs hok ca n cc w hn hm h
  obtain ⟨hF, _⟩ := agreeP_ok hE
  obtain ⟨hcfg, hlen, hall⟩ := formE_ok hF
  have hcn := hcfg.2.1
  have hs8 : hs.length ≤ 8 := by omega
  rw [hE] at PF
  have PF' : ∀ w, CachesAt w ca hs → Calls Try.prog 58 #[.agg #[.int .i64 cn, .int .i64 cs, .int .i64 cy, .int .i64 cb], .agg (worldL ca n cc xs).toArray] w (Ret (.tuple #[.int .i64 0, .int .i64 ((agreeP cn cs cy cb hs xs).2 : Int)]) w) := PF
  have HPH : Hid (∀ (L : Nat), L < 16 → ∀ w, CachesAt w ca hs → Calls Try.prog 61 #[.agg #[.int .i64 cn, .int .i64 cs, .int .i64 cy, .int .i64 cb], .agg (worldL ca n cc xs).toArray, .int .i64 L] w (HoldPost (holdL cs hs L) w)) := Lib.hid fun L hL w h => by
    rw [← hn]; exact holders_any cn cs cy cb xs hs hok hall hs8 L (by omega) ca cc w h
  have HPV : Hid (∀ (L : Nat), L < 16 → ∀ (a : Option Addr) (c : Nat) (w : World), HeldAt w a (holdL cs hs L) → Calls Try.prog 53 #[.agg (worldL ca n cc xs).toArray, .slice a (holdL cs hs L).length c, .int .i64 L] w (Ret (.agg #[.int .u64 (vAt cs hs xs L 0), .int .u64 (vAt cs hs xs L 1), .int .u64 (vAt cs hs xs L 2), .int .u64 (vAt cs hs xs L 3)]) w)) := Lib.hid fun L hL a c w h =>
    value_any xs hxl (holdL cs hs L) (Nat.le_trans (holdL_len cs L hs) hs8) a c L hL ca n cc w h
  have HPN : Hid (∀ w, Calls Try.prog 59 #[] w (Ret (.agg (memA zeroXs)) w)) := Lib.hid new_any
  have hzl : zeroXs.length = 64 := by decide
  have HH := Lib.hid hH
  have hlw := worldL_len (a := ca) (n := n) (c := cc) hxl
  change Calls _ _ #[_, .agg (worldL ca n cc xs).toArray] _ _
  clear PF hH hok hn wx hxl hE hF hcfg hlen hall hcn hs8 hm
  generalize zeroXs = z at *
  generalize worldL ca n cc xs = CS at *
  generalize vAt cs hs xs = vf at *
  generalize (agreeP cn cs cy cb hs xs).2 = E2 at *
  have HPF := Lib.hid PF'
  have HLW := Lib.hid hlw
  have HZL0 := Lib.hid hzl
  have huW := Try.underlying57
  have huC := Try.underlying54
  have hiW : (Try.prog.info? 57).map (·.size) = some CS.length := by rw [hlw]; kernel_rfl
  have hiC : (Try.prog.info? 54).map (·.size) = some [Value.int .i64 cn, .int .i64 cs, .int .i64 cy, .int .i64 cb].length := by kernel_rfl
  have HSZ : Hid ((memA z).size = 64) := Lib.hid (by rw [size_memA, hzl])
  clear PF' hlw hzl
  -- A begin
  go_enter Try.func23, Try.ntmps23
  go_wp2_with (first
    | ((with_reducible refine at_wp ?_); refine wpList_load_r rfl 57 _ rfl _ rfl 65 _ Try.underlying57 rfl (by kernel_rfl) (by (simp [go_sem, HLW.out]; done)) ?_; intro C hC; simp [go_sem] at hC; subst hC)
    | (go_at_call 58; refine (HPF.out _ (CachesAt.below HH.out (by repeat (first | exact Below.refl _ _ | apply bs_later | apply bs_alloc | apply bs_drew | apply bs_drewN)))).mono ?_; rintro e w1 ⟨rfl, hb1⟩; obtain ⟨l1, d1, rfl⟩ := later_of hb1; clear hb1)
    | (go_at_call 59; refine (HPN.out _).mono ?_; rintro e w1 ⟨rfl, hb1⟩; obtain ⟨l2, d2, rfl⟩ := later_of hb1; clear hb1; rw [later_later]; generalize l1 ++ l2 = o1)
    | ((with_reducible refine at_wp ?_); refine wpList_store_r rfl 26 _ _ rfl _ rfl _ rfl 64 (by kernel_rfl) (by (simp [go_sem, HSZ.out]; done)) (by (simp [HSZ.out]; done)) (memA_one _) ?_; intro W' hW'; simp [go_sem] at hW'; subst hW'))
  obtain ⟨g, hg⟩ : ∃ g, g = w.heap.size + 1 + 1 + 1 + o1.size := ⟨_, rfl⟩
  have HG := Lib.hid hg
  rw [← hg]
  clear hg HSZ
  go_loopw [21] (RelV cn cs cy cb CS z vf g w) (fun i _ => 16 - (intOf i).toNat)
  case atStart => exact ⟨0, _, o1, d2, #[], _, Nat.zero_le _, rfl, later_zero _, by rfl, HG.out⟩
  case round =>
    clear HG o1 d2
    obtain ⟨k, R, o1, d2, o, d, hk, rfl, rfl, hR, rfl⟩ := hrel
    have hzk := flatK_len vf HZL0.out k
    have HNX0 : Hid (flatK z vf (k + 1) = lineM (flatK z vf k) k (vf k 0) (vf k 1) (vf k 2) (vf k 3)) := Lib.hid rfl
    obtain ⟨ZL, hZL⟩ : ∃ ZL, ZL = flatK z vf 16 := ⟨_, rfl⟩
    have HFIN : Hid (k = 16 → ZL = flatK z vf k) := Lib.hid fun e => by rw [hZL, e]
    generalize flatK z vf k = ZK at *
    have HZL := Lib.hid hzk
    have HSZ : Hid ((memA ZK).size = 64) := Lib.hid (by rw [size_memA, hzk])
    by_cases hk16 : k < 16
    · have hkI : (k : Int) < 16 := by omega
      have HJ : Hid (k + 1 ≤ 16) := Lib.hid hk16
      have HNX : Hid (flatK z vf (k + 1) = lineM ZK k (vf k 0) (vf k 1) (vf k 2) (vf k 3)) := HNX0
      have HSZ2 : Hid ((memA (lineM ZK k (vf k 0) (vf k 1) (vf k 2) (vf k 3))).size = 64) := Lib.hid (by rw [size_memA, lineM_len, hzk])
      have hr0' : ((w.alloc (.cells #[.int .i64 cn, .int .i64 cs, .int .i64 cy, .int .i64 cb] 54)).alloc (.cells CS.toArray 57)).rangeAt (w.heap.size + 1) 0 CS := range_new (by simp)
      have hr1' : (w.alloc (.cells #[.int .i64 cn, .int .i64 cs, .int .i64 cy, .int .i64 cb] 54)).rangeAt w.heap.size 0 [.int .i64 cn, .int .i64 cs, .int .i64 cy, .int .i64 cb] := range_new (CS := [.int .i64 cn, .int .i64 cs, .int .i64 cy, .int .i64 cb]) rfl
      have hr0 : ((((w.alloc (.cells #[.int .i64 cn, .int .i64 cs, .int .i64 cy, .int .i64 cb] 54)).alloc (.cells CS.toArray 57)).alloc (.cells R 26)).later o1 d2).rangeAt (w.heap.size + 1) 0 CS := range_below hr0' (by repeat (first | exact Below.refl _ _ | apply bs_later | apply bs_alloc | apply bs_drew | apply bs_drewN))
      have hr1 : ((((w.alloc (.cells #[.int .i64 cn, .int .i64 cs, .int .i64 cy, .int .i64 cb] 54)).alloc (.cells CS.toArray 57)).alloc (.cells R 26)).later o1 d2).rangeAt w.heap.size 0 [.int .i64 cn, .int .i64 cs, .int .i64 cy, .int .i64 cb] := range_below hr1' (by repeat (first | exact Below.refl _ _ | apply bs_later | apply bs_alloc | apply bs_drew | apply bs_drewN))
      clear hr0' hr1'
      clear hZL HFIN HNX0 hk hzk
      -- B begin
      go_upto_region 8 with (fail)
      refine wp_region_held_drew (S := fun w' => w'.rangeAt (w.heap.size + 1) 0 CS ∧ w'.rangeAt w.heap.size 0 [.int .i64 cn, .int .i64 cs, .int .i64 cy, .int .i64 cb]) (by kernel_rfl) ⟨range_below hr0 (by repeat (first | exact Below.refl _ _ | apply bs_later | apply bs_alloc | apply bs_drew | apply bs_drewN)), range_below hr1 (by repeat (first | exact Below.refl _ _ | apply bs_later | apply bs_alloc | apply bs_drew | apply bs_drewN))⟩ (fun hHeld => ?_)
      refine wpAnyH_take (i := 2) rfl (by kernel_rfl) (by kernel_rfl) (by kernel_rfl) (fun _ _ _ h => h) (yieldsIf_load_mid (by rfl) _ _ rfl _ _ rfl _ _ (fun w hw => hw.1) huW rfl hiW) (by assumption) ?_
      try simp only [Act.put, List.getElem_toArray, List.getElem_cons_succ, List.getElem_cons_zero, List.setIfInBounds_toArray, List.set_cons_zero, List.set_cons_succ]
      refine wpAnyH_take (i := 3) rfl (by kernel_rfl) (by kernel_rfl) (by kernel_rfl) (fun _ _ _ h => h) (yieldsIf_load_mid (by rfl) _ _ rfl _ _ rfl _ _ (fun w hw => hw.2) huC rfl hiC) (by assumption) ?_
      try simp only [Act.put, List.getElem_toArray, List.getElem_cons_succ, List.getElem_cons_zero, List.setIfInBounds_toArray, List.set_cons_zero, List.set_cons_succ]
      refine wpAnyH_take (i := 4) rfl (by kernel_rfl) (by kernel_rfl) (by kernel_rfl) (fun _ _ _ h => h) (yieldsIf_load_mid (by rfl) _ _ rfl _ _ rfl _ _ (fun w hw => hw.1) huW rfl hiW) (by assumption) ?_
      try simp only [Act.put, List.getElem_toArray, List.getElem_cons_succ, List.getElem_cons_zero, List.setIfInBounds_toArray, List.set_cons_zero, List.set_cons_succ]
      refine wpAnyH_take (i := 1) (v := ?v1t) rfl (by kernel_rfl) (by kernel_rfl) (by kernel_rfl) (fun _ _ _ h => h) (Or.inl ⟨by rfl, ?y1t⟩) (by assumption) ?r1t
      case y1t => intro w hw; go_simp; with_reducible rfl
      try simp only [Act.put, List.getElem_toArray, List.getElem_cons_succ, List.getElem_cons_zero, List.setIfInBounds_toArray, List.set_cons_zero, List.set_cons_succ]
      refine wpAnyH_take (i := 5) (v := ?v5t) rfl (by kernel_rfl) (by kernel_rfl) (by kernel_rfl) (fun _ _ _ h => h) (Or.inl ⟨by rfl, ?y5t⟩) (by assumption) ?r5t
      case y5t => intro w hw; go_simp; with_reducible rfl
      try simp only [Act.put, List.getElem_toArray, List.getElem_cons_succ, List.getElem_cons_zero, List.setIfInBounds_toArray, List.set_cons_zero, List.set_cons_succ]
      refine wpAnyH_take (i := 7) (v := ?v7t) rfl (by kernel_rfl) (by kernel_rfl) (by kernel_rfl) (fun _ _ _ h => h) (Or.inl ⟨by rfl, ?y7t⟩) (by assumption) ?r7t
      case y7t => intro w hw; go_simp; with_reducible rfl
      try simp only [Act.put, List.getElem_toArray, List.getElem_cons_succ, List.getElem_cons_zero, List.setIfInBounds_toArray, List.set_cons_zero, List.set_cons_succ]
      refine wpAnyH_ready (rs := [0, 6]) (by kernel_rfl) (by simp) ?_
      refine AllReadyH.cons rfl (fun K hK => ?_) (AllReadyH.cons rfl (fun K hK => ?_) AllReadyH.nil)
      · rw [if_pos (by rfl)]
        refine wp_load_r 26 _ rfl _ rfl 64 _ Try.underlying26 rfl (by kernel_rfl) (by (simp [go_sem, HSZ.out]; done)) ?_
        intro C hC
        simp [go_sem] at hC
        subst hC
        refine hK.out _ _ ⟨range_below hr0 (by repeat (first | exact Below.refl _ _ | apply bs_later | apply bs_alloc | apply bs_drew | apply bs_drewN)), range_below hr1 (by repeat (first | exact Below.refl _ _ | apply bs_later | apply bs_alloc | apply bs_drew | apply bs_drewN))⟩ (fun hHeld => ?_)
        clear hK K
        try simp only [Act.put, List.getElem_toArray, List.getElem_cons_succ, List.getElem_cons_zero, List.setIfInBounds_toArray, List.set_cons_zero, List.set_cons_succ]
        refine wpAnyH_ready (rs := [6]) (by kernel_rfl) (by simp) ?_
        refine AllReadyH.cons rfl (fun K hK => ?_) AllReadyH.nil
        go_simp
        refine (HPH.out k hk16 _ (CachesAt.below HH.out (by repeat (first | exact Below.refl _ _ | apply bs_later | apply bs_alloc | apply bs_drew | apply bs_drewN)))).mono ?_
        rintro e w1 ⟨v, rfl, hown, hb1⟩
        obtain ⟨l1, d1, rfl⟩ := later_of hb1
        obtain ⟨va, vc, hv⟩ := own_form hown
        subst hv
        have HHE := Lib.hid (own_held hown)
        clear hb1 hown
        refine hK.out _ _ ⟨range_below hr0 (by repeat (first | exact Below.refl _ _ | apply bs_later | apply bs_alloc | apply bs_drew | apply bs_drewN)), range_below hr1 (by repeat (first | exact Below.refl _ _ | apply bs_later | apply bs_alloc | apply bs_drew | apply bs_drewN))⟩ (fun hHeld => ?_)
        clear hK K
        try simp only [Act.put, List.getElem_toArray, List.getElem_cons_succ, List.getElem_cons_zero, List.setIfInBounds_toArray, List.set_cons_zero, List.set_cons_succ]
        refine wpAnyH_ready (rs := [8]) (by kernel_rfl) (by simp) ?_
        refine AllReadyH.cons rfl (fun K hK => ?_) AllReadyH.nil
        go_simp
        refine (HPV.out k hk16 va vc _ (HeldAt.below HHE.out (by repeat (first | exact Below.refl _ _ | apply bs_later | apply bs_alloc | apply bs_drew | apply bs_drewN)))).mono ?_
        rintro e w1 ⟨rfl, hb1⟩
        obtain ⟨l3, d3, rfl⟩ := later_of hb1
        clear hb1
        refine hK.out _ _ ⟨range_below hr0 (by repeat (first | exact Below.refl _ _ | apply bs_later | apply bs_alloc | apply bs_drew | apply bs_drewN)), range_below hr1 (by repeat (first | exact Below.refl _ _ | apply bs_later | apply bs_alloc | apply bs_drew | apply bs_drewN))⟩ (fun hHeld => ?_)
        clear hK K
        try simp only [Act.put, List.getElem_toArray, List.getElem_cons_succ, List.getElem_cons_zero, List.setIfInBounds_toArray, List.set_cons_zero, List.set_cons_succ]
        refine wpAnyH_ready (rs := [9]) (by kernel_rfl) (by simp) ?_
        refine AllReadyH.cons rfl (fun K hK => ?_) AllReadyH.nil
        go_simp
        refine (write_ok ZK HZL.out k hk16 _ _ _ _ _).mono ?_
        rintro e w1 ⟨rfl, hb1⟩
        obtain ⟨l4, d4, rfl⟩ := later_of hb1
        clear hb1
        refine hK.out _ _ ⟨range_below hr0 (by repeat (first | exact Below.refl _ _ | apply bs_later | apply bs_alloc | apply bs_drew | apply bs_drewN)), range_below hr1 (by repeat (first | exact Below.refl _ _ | apply bs_later | apply bs_alloc | apply bs_drew | apply bs_drewN))⟩ (fun hHeld => ?_)
        clear hK K
        try simp only [Act.put, List.getElem_toArray, List.getElem_cons_succ, List.getElem_cons_zero, List.setIfInBounds_toArray, List.set_cons_zero, List.set_cons_succ]
        refine wpAnyH_take (i := 10) (v := ?v10z1) rfl (by kernel_rfl) (by kernel_rfl) (by kernel_rfl) (fun _ _ _ h => h) (Or.inl ⟨by rfl, ?y10z1⟩) (by assumption) ?r10z1
        case y10z1 => intro w hw; go_simp; with_reducible rfl
        try simp only [Act.put, List.getElem_toArray, List.getElem_cons_succ, List.getElem_cons_zero, List.setIfInBounds_toArray, List.set_cons_zero, List.set_cons_succ]
        refine wpAnyH_take (i := 11) (v := ?v11z1) rfl (by kernel_rfl) (by kernel_rfl) (by kernel_rfl) (fun _ _ _ h => h) (Or.inl ⟨by rfl, ?y11z1⟩) (by assumption) ?r11z1
        case y11z1 => intro w hw; go_simp; with_reducible rfl
        try simp only [Act.put, List.getElem_toArray, List.getElem_cons_succ, List.getElem_cons_zero, List.setIfInBounds_toArray, List.set_cons_zero, List.set_cons_succ]
        refine wpAnyH_take (i := 12) (v := ?v12z1) rfl (by kernel_rfl) (by kernel_rfl) (by kernel_rfl) (fun _ _ _ h => h) (Or.inl ⟨by rfl, ?y12z1⟩) (by assumption) ?r12z1
        case y12z1 => intro w hw; go_simp; with_reducible rfl
        try simp only [Act.put, List.getElem_toArray, List.getElem_cons_succ, List.getElem_cons_zero, List.setIfInBounds_toArray, List.set_cons_zero, List.set_cons_succ]
        refine wpAnyH_ready (rs := [13]) (by kernel_rfl) (by simp) ?_
        refine AllReadyH.cons rfl (fun K hK => ?_) AllReadyH.nil
        rw [if_pos (by rfl)]
        refine wp_store_r 26 _ _ rfl _ rfl (memA (lineM ZK k (vf k 0) (vf k 1) (vf k 2) (vf k 3))) rfl 64 (by kernel_rfl) (by (simp [go_sem, HSZ.out]; done)) (by (simp [HSZ2.out]; done)) (memA_one _) ?_
        intro W' hW'
        simp [go_sem] at hW'
        subst hW'
        refine hK.out _ _ ⟨range_below hr0 (by repeat (first | exact Below.refl _ _ | apply bs_later | apply bs_alloc | apply bs_drew | apply bs_drewN)), range_below hr1 (by repeat (first | exact Below.refl _ _ | apply bs_later | apply bs_alloc | apply bs_drew | apply bs_drewN))⟩ (fun hHeld => ?_)
        clear hK K
        try simp only [Act.put, List.getElem_toArray, List.getElem_cons_succ, List.getElem_cons_zero, List.setIfInBounds_toArray, List.set_cons_zero, List.set_cons_succ]
        refine wpAnyH_done (by kernel_rfl) ?_ _
        go_wp2
        go_roundw
        case rel => exact ⟨k + 1, R, o1, d2, _, _, HJ.out, by go_num, (by rw [HNX.out]; simp only [later_later]; rfl), hR, rfl⟩
        case measure => simp [intOf]; omega
      · go_simp
        refine (HPH.out k hk16 _ (CachesAt.below HH.out (by repeat (first | exact Below.refl _ _ | apply bs_later | apply bs_alloc | apply bs_drew | apply bs_drewN)))).mono ?_
        rintro e w1 ⟨v, rfl, hown, hb1⟩
        obtain ⟨l1, d1, rfl⟩ := later_of hb1
        obtain ⟨va, vc, hv⟩ := own_form hown
        subst hv
        have HHE := Lib.hid (own_held hown)
        clear hb1 hown
        refine hK.out _ _ ⟨range_below hr0 (by repeat (first | exact Below.refl _ _ | apply bs_later | apply bs_alloc | apply bs_drew | apply bs_drewN)), range_below hr1 (by repeat (first | exact Below.refl _ _ | apply bs_later | apply bs_alloc | apply bs_drew | apply bs_drewN))⟩ (fun hHeld => ?_)
        clear hK K
        try simp only [Act.put, List.getElem_toArray, List.getElem_cons_succ, List.getElem_cons_zero, List.setIfInBounds_toArray, List.set_cons_zero, List.set_cons_succ]
        refine wpAnyH_ready (rs := [0, 8]) (by kernel_rfl) (by simp) ?_
        refine AllReadyH.cons rfl (fun K hK => ?_) (AllReadyH.cons rfl (fun K hK => ?_) AllReadyH.nil)
        · rw [if_pos (by rfl)]
          refine wp_load_r 26 _ rfl _ rfl 64 _ Try.underlying26 rfl (by kernel_rfl) (by (simp [go_sem, HSZ.out]; done)) ?_
          intro C hC
          simp [go_sem] at hC
          subst hC
          refine hK.out _ _ ⟨range_below hr0 (by repeat (first | exact Below.refl _ _ | apply bs_later | apply bs_alloc | apply bs_drew | apply bs_drewN)), range_below hr1 (by repeat (first | exact Below.refl _ _ | apply bs_later | apply bs_alloc | apply bs_drew | apply bs_drewN))⟩ (fun hHeld => ?_)
          clear hK K
          try simp only [Act.put, List.getElem_toArray, List.getElem_cons_succ, List.getElem_cons_zero, List.setIfInBounds_toArray, List.set_cons_zero, List.set_cons_succ]
          refine wpAnyH_ready (rs := [8]) (by kernel_rfl) (by simp) ?_
          refine AllReadyH.cons rfl (fun K hK => ?_) AllReadyH.nil
          go_simp
          refine (HPV.out k hk16 va vc _ (HeldAt.below HHE.out (by repeat (first | exact Below.refl _ _ | apply bs_later | apply bs_alloc | apply bs_drew | apply bs_drewN)))).mono ?_
          rintro e w1 ⟨rfl, hb1⟩
          obtain ⟨l3, d3, rfl⟩ := later_of hb1
          clear hb1
          refine hK.out _ _ ⟨range_below hr0 (by repeat (first | exact Below.refl _ _ | apply bs_later | apply bs_alloc | apply bs_drew | apply bs_drewN)), range_below hr1 (by repeat (first | exact Below.refl _ _ | apply bs_later | apply bs_alloc | apply bs_drew | apply bs_drewN))⟩ (fun hHeld => ?_)
          clear hK K
          try simp only [Act.put, List.getElem_toArray, List.getElem_cons_succ, List.getElem_cons_zero, List.setIfInBounds_toArray, List.set_cons_zero, List.set_cons_succ]
          refine wpAnyH_ready (rs := [9]) (by kernel_rfl) (by simp) ?_
          refine AllReadyH.cons rfl (fun K hK => ?_) AllReadyH.nil
          go_simp
          refine (write_ok ZK HZL.out k hk16 _ _ _ _ _).mono ?_
          rintro e w1 ⟨rfl, hb1⟩
          obtain ⟨l4, d4, rfl⟩ := later_of hb1
          clear hb1
          refine hK.out _ _ ⟨range_below hr0 (by repeat (first | exact Below.refl _ _ | apply bs_later | apply bs_alloc | apply bs_drew | apply bs_drewN)), range_below hr1 (by repeat (first | exact Below.refl _ _ | apply bs_later | apply bs_alloc | apply bs_drew | apply bs_drewN))⟩ (fun hHeld => ?_)
          clear hK K
          try simp only [Act.put, List.getElem_toArray, List.getElem_cons_succ, List.getElem_cons_zero, List.setIfInBounds_toArray, List.set_cons_zero, List.set_cons_succ]
          refine wpAnyH_take (i := 10) (v := ?v10z2) rfl (by kernel_rfl) (by kernel_rfl) (by kernel_rfl) (fun _ _ _ h => h) (Or.inl ⟨by rfl, ?y10z2⟩) (by assumption) ?r10z2
          case y10z2 => intro w hw; go_simp; with_reducible rfl
          try simp only [Act.put, List.getElem_toArray, List.getElem_cons_succ, List.getElem_cons_zero, List.setIfInBounds_toArray, List.set_cons_zero, List.set_cons_succ]
          refine wpAnyH_take (i := 11) (v := ?v11z2) rfl (by kernel_rfl) (by kernel_rfl) (by kernel_rfl) (fun _ _ _ h => h) (Or.inl ⟨by rfl, ?y11z2⟩) (by assumption) ?r11z2
          case y11z2 => intro w hw; go_simp; with_reducible rfl
          try simp only [Act.put, List.getElem_toArray, List.getElem_cons_succ, List.getElem_cons_zero, List.setIfInBounds_toArray, List.set_cons_zero, List.set_cons_succ]
          refine wpAnyH_take (i := 12) (v := ?v12z2) rfl (by kernel_rfl) (by kernel_rfl) (by kernel_rfl) (fun _ _ _ h => h) (Or.inl ⟨by rfl, ?y12z2⟩) (by assumption) ?r12z2
          case y12z2 => intro w hw; go_simp; with_reducible rfl
          try simp only [Act.put, List.getElem_toArray, List.getElem_cons_succ, List.getElem_cons_zero, List.setIfInBounds_toArray, List.set_cons_zero, List.set_cons_succ]
          refine wpAnyH_ready (rs := [13]) (by kernel_rfl) (by simp) ?_
          refine AllReadyH.cons rfl (fun K hK => ?_) AllReadyH.nil
          rw [if_pos (by rfl)]
          refine wp_store_r 26 _ _ rfl _ rfl (memA (lineM ZK k (vf k 0) (vf k 1) (vf k 2) (vf k 3))) rfl 64 (by kernel_rfl) (by (simp [go_sem, HSZ.out]; done)) (by (simp [HSZ2.out]; done)) (memA_one _) ?_
          intro W' hW'
          simp [go_sem] at hW'
          subst hW'
          refine hK.out _ _ ⟨range_below hr0 (by repeat (first | exact Below.refl _ _ | apply bs_later | apply bs_alloc | apply bs_drew | apply bs_drewN)), range_below hr1 (by repeat (first | exact Below.refl _ _ | apply bs_later | apply bs_alloc | apply bs_drew | apply bs_drewN))⟩ (fun hHeld => ?_)
          clear hK K
          try simp only [Act.put, List.getElem_toArray, List.getElem_cons_succ, List.getElem_cons_zero, List.setIfInBounds_toArray, List.set_cons_zero, List.set_cons_succ]
          refine wpAnyH_done (by kernel_rfl) ?_ _
          go_wp2
          go_roundw
          case rel => exact ⟨k + 1, R, o1, d2, _, _, HJ.out, by go_num, (by rw [HNX.out]; simp only [later_later]; rfl), hR, rfl⟩
          case measure => simp [intOf]; omega
        · go_simp
          refine (HPV.out k hk16 va vc _ (HeldAt.below HHE.out (by repeat (first | exact Below.refl _ _ | apply bs_later | apply bs_alloc | apply bs_drew | apply bs_drewN)))).mono ?_
          rintro e w1 ⟨rfl, hb1⟩
          obtain ⟨l3, d3, rfl⟩ := later_of hb1
          clear hb1
          refine hK.out _ _ ⟨range_below hr0 (by repeat (first | exact Below.refl _ _ | apply bs_later | apply bs_alloc | apply bs_drew | apply bs_drewN)), range_below hr1 (by repeat (first | exact Below.refl _ _ | apply bs_later | apply bs_alloc | apply bs_drew | apply bs_drewN))⟩ (fun hHeld => ?_)
          clear hK K
          try simp only [Act.put, List.getElem_toArray, List.getElem_cons_succ, List.getElem_cons_zero, List.setIfInBounds_toArray, List.set_cons_zero, List.set_cons_succ]
          refine wpAnyH_ready (rs := [0]) (by kernel_rfl) (by simp) ?_
          refine AllReadyH.cons rfl (fun K hK => ?_) AllReadyH.nil
          rw [if_pos (by rfl)]
          refine wp_load_r 26 _ rfl _ rfl 64 _ Try.underlying26 rfl (by kernel_rfl) (by (simp [go_sem, HSZ.out]; done)) ?_
          intro C hC
          simp [go_sem] at hC
          subst hC
          refine hK.out _ _ ⟨range_below hr0 (by repeat (first | exact Below.refl _ _ | apply bs_later | apply bs_alloc | apply bs_drew | apply bs_drewN)), range_below hr1 (by repeat (first | exact Below.refl _ _ | apply bs_later | apply bs_alloc | apply bs_drew | apply bs_drewN))⟩ (fun hHeld => ?_)
          clear hK K
          try simp only [Act.put, List.getElem_toArray, List.getElem_cons_succ, List.getElem_cons_zero, List.setIfInBounds_toArray, List.set_cons_zero, List.set_cons_succ]
          refine wpAnyH_ready (rs := [9]) (by kernel_rfl) (by simp) ?_
          refine AllReadyH.cons rfl (fun K hK => ?_) AllReadyH.nil
          go_simp
          refine (write_ok ZK HZL.out k hk16 _ _ _ _ _).mono ?_
          rintro e w1 ⟨rfl, hb1⟩
          obtain ⟨l4, d4, rfl⟩ := later_of hb1
          clear hb1
          refine hK.out _ _ ⟨range_below hr0 (by repeat (first | exact Below.refl _ _ | apply bs_later | apply bs_alloc | apply bs_drew | apply bs_drewN)), range_below hr1 (by repeat (first | exact Below.refl _ _ | apply bs_later | apply bs_alloc | apply bs_drew | apply bs_drewN))⟩ (fun hHeld => ?_)
          clear hK K
          try simp only [Act.put, List.getElem_toArray, List.getElem_cons_succ, List.getElem_cons_zero, List.setIfInBounds_toArray, List.set_cons_zero, List.set_cons_succ]
          refine wpAnyH_take (i := 10) (v := ?v10z3) rfl (by kernel_rfl) (by kernel_rfl) (by kernel_rfl) (fun _ _ _ h => h) (Or.inl ⟨by rfl, ?y10z3⟩) (by assumption) ?r10z3
          case y10z3 => intro w hw; go_simp; with_reducible rfl
          try simp only [Act.put, List.getElem_toArray, List.getElem_cons_succ, List.getElem_cons_zero, List.setIfInBounds_toArray, List.set_cons_zero, List.set_cons_succ]
          refine wpAnyH_take (i := 11) (v := ?v11z3) rfl (by kernel_rfl) (by kernel_rfl) (by kernel_rfl) (fun _ _ _ h => h) (Or.inl ⟨by rfl, ?y11z3⟩) (by assumption) ?r11z3
          case y11z3 => intro w hw; go_simp; with_reducible rfl
          try simp only [Act.put, List.getElem_toArray, List.getElem_cons_succ, List.getElem_cons_zero, List.setIfInBounds_toArray, List.set_cons_zero, List.set_cons_succ]
          refine wpAnyH_take (i := 12) (v := ?v12z3) rfl (by kernel_rfl) (by kernel_rfl) (by kernel_rfl) (fun _ _ _ h => h) (Or.inl ⟨by rfl, ?y12z3⟩) (by assumption) ?r12z3
          case y12z3 => intro w hw; go_simp; with_reducible rfl
          try simp only [Act.put, List.getElem_toArray, List.getElem_cons_succ, List.getElem_cons_zero, List.setIfInBounds_toArray, List.set_cons_zero, List.set_cons_succ]
          refine wpAnyH_ready (rs := [13]) (by kernel_rfl) (by simp) ?_
          refine AllReadyH.cons rfl (fun K hK => ?_) AllReadyH.nil
          rw [if_pos (by rfl)]
          refine wp_store_r 26 _ _ rfl _ rfl (memA (lineM ZK k (vf k 0) (vf k 1) (vf k 2) (vf k 3))) rfl 64 (by kernel_rfl) (by (simp [go_sem, HSZ.out]; done)) (by (simp [HSZ2.out]; done)) (memA_one _) ?_
          intro W' hW'
          simp [go_sem] at hW'
          subst hW'
          refine hK.out _ _ ⟨range_below hr0 (by repeat (first | exact Below.refl _ _ | apply bs_later | apply bs_alloc | apply bs_drew | apply bs_drewN)), range_below hr1 (by repeat (first | exact Below.refl _ _ | apply bs_later | apply bs_alloc | apply bs_drew | apply bs_drewN))⟩ (fun hHeld => ?_)
          clear hK K
          try simp only [Act.put, List.getElem_toArray, List.getElem_cons_succ, List.getElem_cons_zero, List.setIfInBounds_toArray, List.set_cons_zero, List.set_cons_succ]
          refine wpAnyH_done (by kernel_rfl) ?_ _
          go_wp2
          go_roundw
          case rel => exact ⟨k + 1, R, o1, d2, _, _, HJ.out, by go_num, (by rw [HNX.out]; simp only [later_later]; rfl), hR, rfl⟩
          case measure => simp [intOf]; omega
      -- B end
    · have HFIN2 : Hid (flatK z vf 16 = ZK) := Lib.hid (hZL.symm.trans (HFIN.out (by omega)))
      have hkI : ¬ (k : Int) < 16 := by omega
      clear hZL HFIN HNX0 hk hzk
      -- C begin
      go_wp2_with (first
        | ((with_reducible refine at_wp ?_); refine wpList_load_r rfl 26 _ rfl _ rfl 64 _ Try.underlying26 rfl (by kernel_rfl) (by (simp [go_sem, HSZ.out]; done)) ?_; intro C hC; simp [go_sem] at hC; subst hC)
        | ((with_reducible refine at_wp ?_); refine wpList_store_r rfl 26 _ _ rfl _ rfl _ rfl 64 (by kernel_rfl) (by (simp [go_sem, hR, HSZ.out]; done)) (by (simp [HSZ.out]; done)) (memA_one _) ?_; intro W' hW'; simp [go_sem] at hW'; subst hW'))
      refine bodyPost_ret (results_row_tmp rfl _ _ _ 64 _ rfl Try.underlying26 rfl (by kernel_rfl) ?hrow (memA ZK) ?hcon _ rfl) rfl ?hend
      case hrow => simp [go_sem, hR, HSZ.out]; done
      case hcon => simp [go_sem]
      case hend =>
        rw [HFIN2.out]
        exact ⟨rfl, (by repeat (first | exact Below.refl _ _ | apply bs_later | apply bs_alloc | apply bs_drew | apply bs_drewN))⟩
      -- C end
  -- A end
end Go.Proofs.Ytffhfpdmfegcpac.agree
