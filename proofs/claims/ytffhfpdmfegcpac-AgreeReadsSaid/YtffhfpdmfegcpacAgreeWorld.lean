/- The contract of agree.Check. -/
import Derived.Test.YtffhfpdmfegcpacAgreeCheck
import Derived.Test.YtffhfpdmfegcpacAgreeForm
import Derived.Test.YtffhfpdmfegcpacRange
import Derived.Deep.RegionHeld
namespace Go.Proofs.Ytffhfpdmfegcpac.agree
open Go.ChangeShapes Go.WideShapes Go.ChangeAt Go.RowKit
open Go.Proofs.Ytffhfpdmfegcpac.base Go.Proofs.Ytffhfpdmfegcpac.flat Go.Proofs.Ytffhfpdmfegcpac.table Go.Proofs.Ytffhfpdmfegcpac.prog Go.Proofs.Ytffhfpdmfegcpac.same Go.Proofs.Ytffhfpdmfegcpac.addr Go.Proofs.Ytffhfpdmfegcpac.bank Go.Proofs.Ytffhfpdmfegcpac.ways Go.Proofs.Ytffhfpdmfegcpac.state Go.Proofs.Ytffhfpdmfegcpac.turn Go.Proofs.Ytffhfpdmfegcpac.bankMore Go.Proofs.Ytffhfpdmfegcpac.memEq
open Go.Proofs.Ytffhfpdmfegcpac.range (range_below)
set_option linter.unusedVariables false
set_option linter.unusedSimpArgs false

theorem at_wp {P : Program} {ops : Array Oper} {rest : List Oper} {o : Oper} {a : Act} {w : World} {Q : Exit → Act → World → Prop} (h : wpList P ops Q (o :: rest) a w) : wpList P ops Q (o :: rest) a w := h
def worldL (a : Option Addr) (n c : Nat) (xs : List Int) : List Value := .slice a n c :: xs.map (Value.int .u64)
theorem worldL_len {a : Option Addr} {n c : Nat} {xs : List Int} (h : xs.length = 64) : (worldL a n c xs).length = 65 := by simp [worldL, h]
theorem holdL_ok {cs L : Int} {hs : List (List R4)} (hok : ∀ h ∈ hs, ∀ r ∈ h, r.Ok) : ∀ y ∈ holdL cs hs L, y.x.Ok := by
  intro y hy
  obtain ⟨h, h1, h2⟩ := holdL_mem.1 hy
  obtain ⟨r, h3, h4⟩ := hasC_mem h2
  exact hok h (List.mem_of_getElem? h1) r h3 y.x h4
theorem holdL_len (cs L : Int) (hs : List (List R4)) : (holdL cs hs L).length ≤ hs.length := holdF_len cs L hs 0
theorem range_new {w : World} {g : Nat} {CS : List Value} {t : TypeId} (hg : g = w.heap.size) : (w.alloc (.cells CS.toArray t)).rangeAt g 0 CS := fun j v hv => by
  rw [World.cell?_alloc_at _ _ _ _ hg, Nat.zero_add]
  simpa using hv
def RelW (f : Nat → Int) (w0 : World) (i : Value) (wr : World) : Prop :=
  ∃ k : Nat, k ≤ 16 ∧ i = .int .i64 k ∧ Below w0.heap.size w0 wr ∧ ∀ L, L < k → f L = 0

set_option maxHeartbeats 8000000 in
set_option maxRecDepth 100000 in
theorem checkW_any (cn cs cy cb : Int) (xs : List Int) (hxl : xs.length = 64) (wx : AllU xs) (hs : List (List R4)) (hok : ∀ h ∈ hs, ∀ r ∈ h, r.Ok) (ca : Option Addr) (n cc : Nat) (w : World) (hn : hs.length = n) (hm : n ≤ maxLen) (hH : CachesAt w ca hs) :
    Calls Try.prog 58 #[.agg #[.int .i64 cn, .int .i64 cs, .int .i64 cy, .int .i64 cb], .agg (worldA ca n cc xs)] w (Ret (.tuple #[.int .i64 (agreeP cn cs cy cb hs xs).1, .int .i64 ((agreeP cn cs cy cb hs xs).2 : Int)]) w) := by
  have PF := fun w h => form_any cn cs cy cb xs hs hok ca n cc w hn hm h
  have HH := Lib.hid hH
  unfold agreeP
  by_cases hF : formE cn cs cy cb hs = 0
  · obtain ⟨hcfg, hlen, hall⟩ := formE_ok hF
    rw [if_pos hF]
    rw [hF] at PF
    have hcn := hcfg.2.1
    have hs8 : hs.length ≤ 8 := by omega
    have HSC : Hid (∀ L, L < 16 → lineE cs hs xs L = chkE xs L (holdL cs hs L)) := Lib.hid fun L _ => rfl
    have HPH : Hid (∀ (L : Nat), L < 16 → ∀ w, CachesAt w ca hs → Calls Try.prog 61 #[.agg #[.int .i64 cn, .int .i64 cs, .int .i64 cy, .int .i64 cb], .agg (worldL ca n cc xs).toArray, .int .i64 L] w (HoldPost (holdL cs hs L) w)) := Lib.hid fun L hL w h => by
      rw [← hn]; exact holders_any cn cs cy cb xs hs hok hall hs8 L (by omega) ca cc w h
    have HPC : Hid (∀ (L : Nat), L < 16 → ∀ (a : Option Addr) (c : Nat), (holdL cs hs L).length ≤ c → ∀ w, HeldAt w a (holdL cs hs L) → Calls Try.prog 81 #[.agg (worldL ca n cc xs).toArray, .slice a (holdL cs hs L).length c, .int .i64 L] w (Ret (.int .i64 (lineE cs hs xs L)) w)) := Lib.hid fun L hL a c hc w h =>
      chk_any xs hxl wx (holdL cs hs L) (holdL_ok hok) (Nat.le_trans (holdL_len cs L hs) hs8) a c hc L hL ca n cc w h
    have hlw := worldL_len (a := ca) (n := n) (c := cc) hxl
    have PF' : ∀ w, CachesAt w ca hs → Calls Try.prog 80 #[.agg #[.int .i64 cn, .int .i64 cs, .int .i64 cy, .int .i64 cb], .agg (worldL ca n cc xs).toArray] w (Ret (.int .i64 0) w) := PF
    have HPF := Lib.hid PF'
    change Calls _ _ #[_, .agg (worldL ca n cc xs).toArray] _ _
    clear PF PF' hH hok hall hcfg hlen hcn hs8 hn hF
    generalize worldL ca n cc xs = CS at *
    generalize lineE cs hs xs = f at *
    have huW := Try.underlying57
    have huC := Try.underlying54
    have hiW : (Try.prog.info? 57).map (·.size) = some CS.length := by rw [hlw]; kernel_rfl
    have hiC : (Try.prog.info? 54).map (·.size) = some [Value.int .i64 cn, .int .i64 cs, .int .i64 cy, .int .i64 cb].length := by kernel_rfl
    have HLW := Lib.hid hlw
    clear hxl wx hm hlw
    -- A begin
    go_enter Try.func58, Try.ntmps58
    go_wp2_with (first
      | ((with_reducible refine at_wp ?_); refine wpList_load_r rfl 57 _ rfl _ rfl 65 _ Try.underlying57 rfl (by kernel_rfl) (by (simp [go_sem, HLW.out]; done)) ?_; intro C hC; simp [go_sem] at hC; subst hC)
      | (go_at_call 80; refine (HPF.out _ (CachesAt.below HH.out (by repeat (first | exact Below.refl _ _ | apply bs_later | apply bs_alloc | apply bs_drew | apply bs_drewN)))).mono ?_; rintro e w1 ⟨rfl, hb1⟩; obtain ⟨l1, d1, rfl⟩ := later_of hb1; clear hb1))
    have hr0 : (((w.alloc (.cells #[.int .i64 cn, .int .i64 cs, .int .i64 cy, .int .i64 cb] 54)).alloc (.cells CS.toArray 57)).later l1 d1).rangeAt (w.heap.size + 1) 0 CS := range_below (range_new (by simp)) (bs_later (Below.refl _ _) _ _)
    have hr1 : (((w.alloc (.cells #[.int .i64 cn, .int .i64 cs, .int .i64 cy, .int .i64 cb] 54)).alloc (.cells CS.toArray 57)).later l1 d1).rangeAt w.heap.size 0 [.int .i64 cn, .int .i64 cs, .int .i64 cy, .int .i64 cb] := range_below (range_below (range_new (CS := [.int .i64 cn, .int .i64 cs, .int .i64 cy, .int .i64 cb]) rfl) (bs_alloc (Below.refl _ _) _)) (bs_later (Below.refl _ _) _ _)
    go_loopw [15] (RelW f (((w.alloc (.cells #[.int .i64 cn, .int .i64 cs, .int .i64 cy, .int .i64 cb] 54)).alloc (.cells CS.toArray 57)).later l1 d1)) (fun i _ => 16 - (intOf i).toNat)
    case atStart => exact ⟨0, Nat.zero_le _, rfl, Below.refl _ _, fun L h => absurd h (Nat.not_lt_zero _)⟩
    case round =>
      obtain ⟨k, hk, rfl, hbk, hall⟩ := hrel
      obtain ⟨o, d, rfl⟩ := later_of hbk
      by_cases hk16 : k < 16
      · have hkI : (k : Int) < 16 := by omega
        have HALL := Lib.hid hall
        have HJ : Hid (k + 1 ≤ 16) := Lib.hid hk16
        clear hall hbk hk
        go_upto_region 7 with (fail)
        -- B begin
        refine wp_region_held_drew (S := fun w' => w'.rangeAt (w.heap.size + 1) 0 CS ∧ w'.rangeAt w.heap.size 0 [.int .i64 cn, .int .i64 cs, .int .i64 cy, .int .i64 cb]) (by kernel_rfl) ⟨range_below hr0 (by repeat (first | exact Below.refl _ _ | apply bs_later | apply bs_alloc | apply bs_drew | apply bs_drewN)), range_below hr1 (by repeat (first | exact Below.refl _ _ | apply bs_later | apply bs_alloc | apply bs_drew | apply bs_drewN))⟩ (fun hHeld => ?_)
        refine wpAnyH_take (i := 0) rfl (by kernel_rfl) (by kernel_rfl) (by kernel_rfl) (fun _ _ _ h => h) (yieldsIf_load_mid (by rfl) _ _ rfl _ _ rfl _ _ (fun w hw => hw.1) huW rfl hiW) (by assumption) ?_
        try simp only [Act.put, List.getElem_toArray, List.getElem_cons_succ, List.getElem_cons_zero, List.setIfInBounds_toArray, List.set_cons_zero, List.set_cons_succ]
        refine wpAnyH_take (i := 1) rfl (by kernel_rfl) (by kernel_rfl) (by kernel_rfl) (fun _ _ _ h => h) (yieldsIf_load_mid (by rfl) _ _ rfl _ _ rfl _ _ (fun w hw => hw.2) huC rfl hiC) (by assumption) ?_
        try simp only [Act.put, List.getElem_toArray, List.getElem_cons_succ, List.getElem_cons_zero, List.setIfInBounds_toArray, List.set_cons_zero, List.set_cons_succ]
        refine wpAnyH_take (i := 2) rfl (by kernel_rfl) (by kernel_rfl) (by kernel_rfl) (fun _ _ _ h => h) (yieldsIf_load_mid (by rfl) _ _ rfl _ _ rfl _ _ (fun w hw => hw.1) huW rfl hiW) (by assumption) ?_
        try simp only [Act.put, List.getElem_toArray, List.getElem_cons_succ, List.getElem_cons_zero, List.setIfInBounds_toArray, List.set_cons_zero, List.set_cons_succ]
        refine wpAnyH_take (i := 3) (v := ?v3t) rfl (by kernel_rfl) (by kernel_rfl) (by kernel_rfl) (fun _ _ _ h => h) (Or.inl ⟨by rfl, ?y3t⟩) (by assumption) ?r3t
        case y3t => intro w hw; go_simp; with_reducible rfl
        try simp only [Act.put, List.getElem_toArray, List.getElem_cons_succ, List.getElem_cons_zero, List.setIfInBounds_toArray, List.set_cons_zero, List.set_cons_succ]
        refine wpAnyH_take (i := 5) (v := ?v5t) rfl (by kernel_rfl) (by kernel_rfl) (by kernel_rfl) (fun _ _ _ h => h) (Or.inl ⟨by rfl, ?y5t⟩) (by assumption) ?r5t
        case y5t => intro w hw; go_simp; with_reducible rfl
        try simp only [Act.put, List.getElem_toArray, List.getElem_cons_succ, List.getElem_cons_zero, List.setIfInBounds_toArray, List.set_cons_zero, List.set_cons_succ]
        refine wpAnyH_ready (rs := [4]) (by kernel_rfl) (by simp) ?_
        refine AllReadyH.cons rfl (fun K hK => ?_) AllReadyH.nil
        go_simp
        (refine (HPH.out k hk16 _ (CachesAt.below HH.out (by repeat (first | exact Below.refl _ _ | apply bs_later | apply bs_alloc | apply bs_drew | apply bs_drewN)))).mono ?_; rintro e w1 ⟨v, rfl, hown, hb1⟩; obtain ⟨l1, d1, rfl⟩ := later_of hb1; obtain ⟨va, vc, hv⟩ := own_form hown; subst hv; have HHE := Lib.hid (own_held hown); have HCP := Lib.hid (own_capH hown); clear hb1 hown)
        refine hK.out _ _ ⟨range_below hr0 (by repeat (first | exact Below.refl _ _ | apply bs_later | apply bs_alloc | apply bs_drew | apply bs_drewN)), range_below hr1 (by repeat (first | exact Below.refl _ _ | apply bs_later | apply bs_alloc | apply bs_drew | apply bs_drewN))⟩ (fun hHeld => ?_)
        clear hK K
        try simp only [Act.put, List.getElem_toArray, List.getElem_cons_succ, List.getElem_cons_zero, List.setIfInBounds_toArray, List.set_cons_zero, List.set_cons_succ]
        refine wpAnyH_ready (rs := [6]) (by kernel_rfl) (by simp) ?_
        refine AllReadyH.cons rfl (fun K hK => ?_) AllReadyH.nil
        go_simp
        (refine (HPC.out k hk16 va vc HCP.out _ HHE.out).mono ?_; rintro e w1 ⟨rfl, hb1⟩; obtain ⟨l2, d2, rfl⟩ := later_of hb1; clear hb1)
        refine hK.out _ _ ⟨range_below hr0 (by repeat (first | exact Below.refl _ _ | apply bs_later | apply bs_alloc | apply bs_drew | apply bs_drewN)), range_below hr1 (by repeat (first | exact Below.refl _ _ | apply bs_later | apply bs_alloc | apply bs_drew | apply bs_drewN))⟩ (fun hHeld => ?_)
        clear hK K
        try simp only [Act.put, List.getElem_toArray, List.getElem_cons_succ, List.getElem_cons_zero, List.setIfInBounds_toArray, List.set_cons_zero, List.set_cons_succ]
        refine wpAnyH_take (i := 7) (v := ?v7u) rfl (by kernel_rfl) (by kernel_rfl) (by kernel_rfl) (fun _ _ _ h => h) (Or.inl ⟨by rfl, ?y7u⟩) (by assumption) ?r7u
        case y7u => intro w hw; go_simp; with_reducible rfl
        try simp only [Act.put, List.getElem_toArray, List.getElem_cons_succ, List.getElem_cons_zero, List.setIfInBounds_toArray, List.set_cons_zero, List.set_cons_succ]
        refine wpAnyH_done (by kernel_rfl) ?_ _
        by_cases hz : f k = 0
        · rw [hz]
          go_wp2
          go_roundw
          case rel => exact ⟨k + 1, HJ.out, by go_num, (by repeat (first | exact Below.refl _ _ | apply bs_later | apply bs_alloc | apply bs_drew | apply bs_drewN)), fun L hL => by
            rcases Nat.lt_succ_iff_lt_or_eq.1 hL with h | rfl
            · exact HALL.out L h
            · exact hz⟩
          case measure => simp [intOf]; omega
        · have hz1 : (f k != 0) = true := by simpa using hz
          have hsc := scanE_at (f := f) (n := 16) (s := 0) (k := k) (fun i _ hi => HALL.out i hi) (Nat.zero_le _) (by omega) hz
          have HSN := Lib.hid hsc
          obtain ⟨fk, hfk⟩ : ∃ fk, fk = f k := ⟨_, rfl⟩
          have HFK := Lib.hid hfk
          rw [← hfk] at hz1 ⊢
          clear hz hsc hfk
          go_wp2
          go_ret2
          exact ⟨by rw [HSN.out, HFK.out]; rfl, (by repeat (first | exact Below.refl _ _ | apply bs_later | apply bs_alloc | apply bs_drew | apply bs_drewN))⟩
        -- B end
      · obtain rfl : k = 16 := by omega
        have hsc := scanE_no (f := f) (n := 16) (s := 0) (fun i _ hi => hall i (by omega))
        have HSN := Lib.hid hsc
        clear hsc hall hbk
        go_wp2
        go_ret2
        exact ⟨by rw [HSN.out]; rfl, (by repeat (first | exact Below.refl _ _ | apply bs_later | apply bs_alloc | apply bs_drew | apply bs_drewN))⟩
    -- A end
  · rw [if_neg hF]
    have hF1 : (formE cn cs cy cb hs != 0) = true := by simpa using hF
    have PF' : ∀ w, CachesAt w ca hs → Calls Try.prog 80 #[.agg #[.int .i64 cn, .int .i64 cs, .int .i64 cy, .int .i64 cb], .agg (worldL ca n cc xs).toArray] w (Ret (.int .i64 (formE cn cs cy cb hs)) w) := PF
    have HPF := Lib.hid PF'
    have hlw := worldL_len (a := ca) (n := n) (c := cc) hxl
    change Calls _ _ #[_, .agg (worldL ca n cc xs).toArray] _ _
    clear PF PF' hH hok hn hF
    generalize worldL ca n cc xs = CS at *
    generalize formE cn cs cy cb hs = E at *
    have HLW := Lib.hid hlw
    clear hxl wx hm hlw
    -- C begin
    go_enter Try.func58, Try.ntmps58
    go_wp2_with (first
      | ((with_reducible refine at_wp ?_); refine wpList_load_r rfl 57 _ rfl _ rfl 65 _ Try.underlying57 rfl (by kernel_rfl) (by (simp [go_sem, HLW.out]; done)) ?_; intro C hC; simp [go_sem] at hC; subst hC)
      | (go_at_call 80; refine (HPF.out _ (CachesAt.below HH.out (by repeat (first | exact Below.refl _ _ | apply bs_later | apply bs_alloc | apply bs_drew | apply bs_drewN)))).mono ?_; rintro e w1 ⟨rfl, hb1⟩; obtain ⟨l1, d1, rfl⟩ := later_of hb1; clear hb1))
    go_ret2
    exact ⟨rfl, (by repeat (first | exact Below.refl _ _ | apply bs_later | apply bs_alloc | apply bs_drew | apply bs_drewN))⟩
    -- C end
end Go.Proofs.Ytffhfpdmfegcpac.agree
