/- ringdovekeep.RingComes: for every configuration, ring, node and wait, the call returns true. -/
import Derived.Test.YtffhfpdmfegcpacRings
import Derived.Test.YtffhfpdmfegcpacRingLaws
import Derived.Test.YtffhfpdmfegcpacRefStep
import Derived.Test.YtffhfpdmfegcpacContains
import Derived.Deep.RegionWith
namespace Go.Proofs.Ytffhfpdmfegcpac.ringComes
open Go.ChangeShapes Go.WideShapes Go.ChangeAt Go.RowKit
open Go.ChangeMaps (open_string shut_string)
open Go.Proofs.Ytffhfpdmfegcpac.base Go.Proofs.Ytffhfpdmfegcpac.knob Go.Proofs.Ytffhfpdmfegcpac.flat Go.Proofs.Ytffhfpdmfegcpac.table Go.Proofs.Ytffhfpdmfegcpac.addr Go.Proofs.Ytffhfpdmfegcpac.slot
set_option linter.unusedVariables false
set_option linter.unusedSimpArgs false

theorem contains_n (a : Option Addr) (c : Nat) (x : Int) (w : World) (xs : List Int) (n : Nat) (hl : xs.length = n) (hn : n ≤ maxLen) (ha : IntsAt .i64 w a xs) :
    Calls Try.prog 21 #[.slice a n c, .int .i64 x] w fun e w' => e = .returned (.bool (decide (x ∈ xs))) ∧ w = w' := by
  subst hl; exact contains.contains_any a c x w xs hn ha

theorem ints_d {k : IntKind} {W : World} {l : Array Obj} {d d' : Nat} {a : Option Addr} {xs : List Int} (h : IntsAt k (W.later l d) a xs) : IntsAt k (W.later l d') a xs := h
/-- a step of a ring that is right -/
theorem step_right (cn cs cy cb : Int) (ss : List S4) (a : Option Addr) (n c : Nat) (w : World) (hnc : n ≤ c) (hcm : c ≤ maxLen) (hd : ss.length = n) (h : SlotsAt w a ss) (h0 : ringE cn cs cy cb ss = 0) :
    Calls Try.prog 26 #[.agg #[.int .i64 cn, .int .i64 cs, .int .i64 cy, .int .i64 cb], .slice a n c] w fun e w' => ∃ a c a2 c2, e = .returned (.tuple #[.slice a n c, .slice a2 (toldL cn ss).length c2, .int .i64 0]) ∧ (n ≤ c ∧ c ≤ maxLen ∧ (toldL cn ss).length ≤ 8 ∧ SlotsAt w' a (stepL cn ss) ∧ IntsAt .i64 w' a2 (sortI (toldL cn ss))) ∧ Below w.heap.size w w' :=
  (step_any cn cs cy cb ss a n c w hnc hcm hd h).mono fun e w' h => by
    obtain ⟨hb, ⟨-, a, c, a2, c2, rfl, h1, h2, h3, h4, hs, ht⟩ | ⟨h, -⟩⟩ := h
    · refine ⟨a, c, a2, c2, by rw [hd], ⟨by omega, h2, ?_, hs, ht⟩, hb⟩
      unfold toldL; rw [List.length_map]
      exact Nat.le_trans (List.length_filter_le _ _) (ringE_len h0).2.1
    · exact absurd h0 h

def RelC (cn node wait : Int) (xs : List S4) (n : Nat) (W0 : World) (r i : Value) (wr : World) : Prop :=
  ∃ (j : Nat) (l : Array Obj) (d : Nat) (a : Option Addr) (c : Nat), (j : Int) ≤ cn + wait ∧ i = .int .i64 ((j : Int) + 1) ∧ r = .slice a n c ∧ n ≤ c ∧ c ≤ maxLen ∧ wr = W0.later l d ∧ SlotsAt (W0.later l d) a (itL cn xs j)

set_option maxHeartbeats 4000000 in
set_option maxRecDepth 100000 in
theorem walk_any (cn cs cy cb node wait : Int) (ss : List S4) (ra : Option Addr) (rn rc : Nat) (w : World) (hnc : rn ≤ rc) (hcm : rc ≤ maxLen) (hd : ss.length = rn) (h : SlotsAt w ra ss) :
    Calls Try.prog 7 #[.agg #[.int .i64 cn, .int .i64 cs, .int .i64 cy, .int .i64 cb], .slice ra rn rc, .int .i64 node, .int .i64 wait] w (Ret (.bool true) w) := by
  by_cases h0 : putE cn cs cy cb node wait ss = 0
  · have hr : ringE cn cs cy cb ss = 0 := by
      by_cases hr : ringE cn cs cy cb ss = 0
      · exact hr
      · exact (if_neg hr : putE cn cs cy cb node wait ss = _).symm.trans h0
    have hlen := ringE_len hr
    have hok := ringOK_iff.1 hlen.2.2.2
    have hcfg := hlen.2.2.1
    have hcn : 2 ≤ cn ∧ cn ≤ 8 := ⟨hcfg.1, hcfg.2.1⟩
    have hE : putE cn cs cy cb node wait ss = (if ¬ ((0 ≤ node ∧ node ≤ cn - 1) ∧ (0 ≤ wait ∧ wait ≤ 9)) then 4 else if byB ss node = true then 6 else 0) := if_pos hr
    have h12 : (0 ≤ node ∧ node ≤ cn - 1) ∧ (0 ≤ wait ∧ wait ≤ 9) := by
      by_cases h12 : (0 ≤ node ∧ node ≤ cn - 1) ∧ (0 ≤ wait ∧ wait ≤ 9)
      · exact h12
      · rw [if_pos h12, h0] at hE; cases hE
    rw [if_neg (fun h => h h12), h0] at hE
    have hby : byB ss node = false := by
      cases hb : byB ss node with
      | false => rfl
      | true => rw [hb] at hE; cases hE
    have PP : ∀ w, SlotsAt w ra ss → Calls Try.prog 25 #[.agg #[.int .i64 cn, .int .i64 cs, .int .i64 cy, .int .i64 cb], .slice ra rn rc, .int .i64 node, .int .i64 wait] w fun e w' => ∃ a c, e = .returned (.tuple #[.slice a rn c, .bool (putB node ss), .int .i64 0]) ∧ (rn ≤ c ∧ c ≤ maxLen ∧ SlotsAt w' a (putL node wait ss)) ∧ Below w.heap.size w w' := fun w h =>
      (put_any cn cs cy cb node wait ss ra rn rc w hnc hcm hd h).mono fun e w' h => by
        obtain ⟨hb, ⟨-, a, c, rfl, h1, h2, hs⟩ | ⟨h, -⟩⟩ := h
        · exact ⟨a, c, by rw [hd], ⟨by omega, h2, hs⟩, hb⟩
        · exact absurd h0 h
    have HP := Lib.hid PP
    have HT := Lib.hid h
    cases hpb : putB node ss with
    | false =>
      rw [hpb] at HP
      clear PP h h0 hr hlen hok hcfg hE h12 hby hpb
      go_enter Try.func7, Try.ntmps7
      go_wp2_with (first
        | (go_at_call 36; refine (rings_any _).mono ?_; rintro e w1 ⟨rfl, hb1⟩; obtain ⟨l0, d0, rfl⟩ := later_of hb1; clear hb1)
        | (go_at_call 25; refine (HP.out _ (SlotsAt.below HT.out (by repeat (first | exact Below.refl _ _ | apply bs_later | apply bs_alloc | apply bs_drew | apply bs_drewN)))).mono ?_; rintro e w1 ⟨a2, c2, rfl, hf, hb1⟩; obtain ⟨l2, d2, rfl⟩ := later_of hb1; clear hb1 hf))
      go_ret
      exact ⟨rfl, (by repeat (first | exact Below.refl _ _ | apply bs_later | apply bs_alloc | apply bs_drew | apply bs_drewN))⟩
    | true =>
      rw [hpb] at HP
      have hokp := putL_ok hok hby h12.1 h12.2
      have hmem := putL_mem (wait := wait) hpb
      have hn1 : 1 ≤ rn := by omega
      have hn8 : rn ≤ 8 := by omega
      have hnE : newE cn cs cy cb rn = 0 := by unfold newE; rw [if_pos (cfgE_ok hcfg), if_neg (by omega)]
      have PL : ∀ w, Calls Try.prog 27 #[.agg #[.int .i64 cn, .int .i64 cs, .int .i64 cy, .int .i64 cb], .int .i64 rn] w (Ret (.tuple #[.int .i64 (cn + 9), .int .i64 0]) w) := fun w =>
        (longest_any cn cs cy cb rn w).mono fun e w' h => by
          obtain ⟨hb, ⟨-, rfl⟩ | ⟨h, -⟩⟩ := h
          · exact ⟨rfl, hb⟩
          · exact absurd hnE h
      have HLN := Lib.hid PL
      have HCM := Lib.hid fun k hk => comes hcn.1 hokp h12.1 h12.2.1 hmem k hk
      have hpl : (putL node wait ss).length = rn := by rw [len_putL, hd]
      have hpl' := hpl
      have PST : ∀ (j : Nat) (a : Option Addr) (c : Nat) (w : World), rn ≤ c → c ≤ maxLen → SlotsAt w a (itL cn (putL node wait ss) j) → Calls Try.prog 26 #[.agg #[.int .i64 cn, .int .i64 cs, .int .i64 cy, .int .i64 cb], .slice a rn c] w fun e w' => ∃ a c a2 n2 c2, e = .returned (.tuple #[.slice a rn c, .slice a2 n2 c2, .int .i64 0]) ∧ ((rn ≤ c ∧ c ≤ maxLen) ∧ (sortI (toldL cn (itL cn (putL node wait ss) j))).length = n2 ∧ n2 ≤ maxLen ∧ SlotsAt w' a (itL cn (putL node wait ss) (j + 1)) ∧ IntsAt .i64 w' a2 (sortI (toldL cn (itL cn (putL node wait ss) j)))) ∧ Below w.heap.size w w' := fun j a c w h1 h2 h3 =>
        (step_right cn cs cy cb _ a rn c w h1 h2 (by rw [len_itL, hpl]) h3 (ringE_ok hcfg (by rw [len_itL, hpl]; exact hn1) (by rw [len_itL, hpl]; exact hn8) (itL_ok hcn.1 hokp j))).mono fun e w' ⟨a5, c5, a6, c6, h1, ⟨h2, h3, h4, h5, h6⟩, h7⟩ => ⟨a5, c5, a6, _, c6, h1, ⟨⟨h2, h3⟩, len_sortI _, by unfold maxLen; omega, h5, h6⟩, h7⟩
      have HST := Lib.hid PST
      obtain ⟨⟨p1, p2⟩, p3, p4⟩ := h12
      generalize hxe : putL node wait ss = xs at *
      have hxl : xs.length = rn := hpl'
      clear PP PL PST h h0 hr hlen hok hcfg hE hby hpb hokp hmem hnE hpl hpl' hxe
      go_enter Try.func7, Try.ntmps7
      go_wp2_with (first
        | (go_at_call 36; refine (rings_any _).mono ?_; rintro e w1 ⟨rfl, hb1⟩; obtain ⟨l0, d0, rfl⟩ := later_of hb1; clear hb1)
        | (go_at_call 25; refine (HP.out _ (SlotsAt.below HT.out (by repeat (first | exact Below.refl _ _ | apply bs_later | apply bs_alloc | apply bs_drew | apply bs_drewN)))).mono ?_; rintro e w1 ⟨a2, c2, rfl, hf, hb1⟩; obtain ⟨l2, d2, rfl⟩ := later_of hb1; have HF := Lib.hid hf; clear hb1 hf)
        | (go_at_call 27; refine (HLN.out _).mono ?_; rintro e w1 ⟨rfl, hb1⟩; obtain ⟨l3, d3, rfl⟩ := later_of hb1; clear hb1))
      obtain ⟨W0, hW0⟩ : ∃ W, W = (((w.alloc (.cells #[.int .i64 cn, .int .i64 cs, .int .i64 cy, .int .i64 cb] 54)).later l0 d0).later l2 d2) := ⟨_, rfl⟩
      have hb0 : Below w.heap.size w W0 := by rw [hW0]; exact (by repeat (first | exact Below.refl _ _ | apply bs_later | apply bs_alloc | apply bs_drew | apply bs_drewN))
      have k0 : W0.cell? ⟨w.heap.size, 0, none⟩ = some (.int .i64 cn) := by rw [hW0]; simp [go_sem]
      have k1 : W0.cell? ⟨w.heap.size, 1, none⟩ = some (.int .i64 cs) := by rw [hW0]; simp [go_sem]
      have k2 : W0.cell? ⟨w.heap.size, 2, none⟩ = some (.int .i64 cy) := by rw [hW0]; simp [go_sem]
      have k3 : W0.cell? ⟨w.heap.size, 3, none⟩ = some (.int .i64 cb) := by rw [hW0]; simp [go_sem]
      have HF0 := Lib.hid (SlotsAt.below HF.out.2.2 (by rw [hW0]; exact (by repeat (first | exact Below.refl _ _ | apply bs_later | apply bs_alloc | apply bs_drew | apply bs_drewN)) : Below _ _ W0))
      have HF00 := Lib.hid (And.intro HF.out.1 HF.out.2.1)
      have HB0 := Lib.hid hb0
      have kin : inB W0 w.heap.size := lt_of_cell k0
      rw [← hW0]
      clear hW0 hb0 HF HP HLN HT
      go_loopw [1, 13] (RelC cn node wait xs rn W0) (fun _ i _ => (cn + wait + 1 - intOf i).toNat)
      case atStart => exact ⟨0, _, _, a2, c2, by omega, by go_num, rfl, HF00.out.1, HF00.out.2, rfl, SlotsAt.below HF0.out (by repeat (first | exact Below.refl _ _ | apply bs_later | apply bs_alloc | apply bs_drew | apply bs_drewN))⟩
      case round =>
        obtain ⟨j, l, d, aj, cj, hj, rfl, rfl, hj1, hj2, rfl, hsl⟩ := hrel
        have HSL := Lib.hid hsl
        have HQ := Lib.hid fun w h => HST.out j aj cj w hj1 hj2 h
        by_cases hlt : (j : Int) < cn + wait
        · have hle : (j : Int) + 1 ≤ cn + wait := by omega
          have hcm := HCM.out j hlt
          have hcase : (decide (node ∈ sortI (toldL cn (itL cn xs j))) = true ∧ ((j : Int) + 1 == cn + wait) = true) ∨ (decide (node ∈ sortI (toldL cn (itL cn xs j))) = false ∧ ((j : Int) + 1 == cn + wait) = false) := by
            by_cases he : (j : Int) + 1 = cn + wait
            · exact .inl ⟨decide_eq_true (mem_sortI.2 (hcm.2 he)), by simpa using he⟩
            · exact .inr ⟨decide_eq_false (fun hh => he (hcm.1 (mem_sortI.1 hh))), by simpa using he⟩
          clear hsl hcm
          have hwrap : IntKind.i64.wrap (cn + wait) = cn + wait := by rw [IntKind.wrap_i64]; omega
          rcases hcase with ⟨hd1, hd2⟩ | ⟨hd1, hd2⟩
          · have HD1 := Lib.hid hd1
            clear hd1
            go_wp2_with (go_at_call 26; refine (HQ.out _ (SlotsAt.below HSL.out (by repeat (first | exact Below.refl _ _ | apply bs_later | apply bs_alloc | apply bs_drew | apply bs_drewN)))).mono ?_; rintro e w1 ⟨a5, c5, a6, n6, c6, rfl, hf, hb1⟩; obtain ⟨l5, d5, rfl⟩ := later_of hb1; have HF5 := Lib.hid hf; clear hb1 hf)
            refine wp_region_any (by kernel_rfl) ?_
            try (change wpAny _ _ _ _ _ _ _ (World.drew _))
            refine wpAny_take (i := 0) (v := ?v0p) rfl (by kernel_rfl) (by kernel_rfl) (by kernel_rfl) (fun _ _ _ h => h) (Or.inl ⟨by rfl, ?y0p⟩) ?r0p
            case y0p => intro w; go_simp; with_reducible rfl
            try simp only [Act.put, List.getElem_toArray, List.getElem_cons_succ, List.getElem_cons_zero, List.setIfInBounds_toArray, List.set_cons_zero, List.set_cons_succ]
            refine wpAny_take (i := 1) (v := ?v1p) rfl (by kernel_rfl) (by kernel_rfl) (by kernel_rfl) (fun _ _ _ h => h) (Or.inl ⟨by rfl, ?y1p⟩) ?r1p
            case y1p => intro w; go_simp; with_reducible rfl
            try simp only [Act.put, List.getElem_toArray, List.getElem_cons_succ, List.getElem_cons_zero, List.setIfInBounds_toArray, List.set_cons_zero, List.set_cons_succ]
            refine wpAny_take (i := 2) (v := ?v2p) rfl (by kernel_rfl) (by kernel_rfl) (by kernel_rfl) (fun _ _ _ h => h) (Or.inl ⟨by rfl, ?y2p⟩) ?r2p
            case y2p => intro w; go_simp; with_reducible rfl
            try simp only [Act.put, List.getElem_toArray, List.getElem_cons_succ, List.getElem_cons_zero, List.setIfInBounds_toArray, List.set_cons_zero, List.set_cons_succ]
            refine wpAny_take (i := 3) (v := ?v3p) rfl (by kernel_rfl) (by kernel_rfl) (by kernel_rfl) (fun _ _ _ h => h) (Or.inl ⟨by rfl, ?y3p⟩) ?r3p
            case y3p => intro w; go_simp; with_reducible rfl
            try simp only [Act.put, List.getElem_toArray, List.getElem_cons_succ, List.getElem_cons_zero, List.setIfInBounds_toArray, List.set_cons_zero, List.set_cons_succ]
            refine wpAny_take (i := 4) (v := ?v4p) rfl (by kernel_rfl) (by kernel_rfl) (by kernel_rfl) (fun _ _ _ h => h) (Or.inl ⟨by rfl, ?y4p⟩) ?r4p
            case y4p => intro w; go_simp; with_reducible rfl
            try simp only [Act.put, List.getElem_toArray, List.getElem_cons_succ, List.getElem_cons_zero, List.setIfInBounds_toArray, List.set_cons_zero, List.set_cons_succ]
            refine wpAny_take (i := 6) (v := ?v6p) rfl (by kernel_rfl) (by kernel_rfl) (by kernel_rfl) (fun _ _ _ h => h) (Or.inl ⟨by rfl, ?y6p⟩) ?r6p
            case y6p => intro w; go_simp; with_reducible rfl
            try simp only [Act.put, List.getElem_toArray, List.getElem_cons_succ, List.getElem_cons_zero, List.setIfInBounds_toArray, List.set_cons_zero, List.set_cons_succ]
            refine wpAny_take (i := 7) (v := ?v7p) rfl (by kernel_rfl) (by kernel_rfl) (by kernel_rfl) (fun _ _ _ h => h) (Or.inl ⟨by rfl, ?y7p⟩) ?r7p
            case y7p => intro w; go_simp; with_reducible rfl
            try simp only [Act.put, List.getElem_toArray, List.getElem_cons_succ, List.getElem_cons_zero, List.setIfInBounds_toArray, List.set_cons_zero, List.set_cons_succ]
            refine wpAny_take (i := 9) (v := ?v9p) rfl (by kernel_rfl) (by kernel_rfl) (by kernel_rfl) (fun _ _ _ h => h) (Or.inl ⟨by rfl, ?y9p⟩) ?r9p
            case y9p => intro w; go_simp; with_reducible rfl
            try simp only [Act.put, List.getElem_toArray, List.getElem_cons_succ, List.getElem_cons_zero, List.setIfInBounds_toArray, List.set_cons_zero, List.set_cons_succ]
            refine wpAny_ready (rs := [5, 8]) (by kernel_rfl) (by simp) ?_
            refine AllReady.cons rfl (fun K hK => ?_) (AllReady.cons rfl (fun K hK => ?_) AllReady.nil)
            · go_simp
              refine (contains_n _ _ _ _ (sortI (toldL cn (itL cn xs j))) _ ?hi1ap ?hi2ap ?hi3ap).mono ?_
              case hi1ap => exact HF5.out.2.1
              case hi2ap => exact HF5.out.2.2.1
              case hi3ap => exact ints_d HF5.out.2.2.2.2
              rintro e w1 ⟨rfl, rfl⟩
              rw [HD1.out]
              refine hK _ _ ?_
              clear hK K
              try simp only [Act.put, List.getElem_toArray, List.getElem_cons_succ, List.getElem_cons_zero, List.setIfInBounds_toArray, List.set_cons_zero, List.set_cons_succ]
              refine wpAny_ready (rs := [8]) (by kernel_rfl) (by simp) ?_
              refine AllReady.cons rfl (fun K hK => ?_) AllReady.nil
              go_simp
              refine hK _ _ ?_
              clear hK K
              try simp only [Act.put, List.getElem_toArray, List.getElem_cons_succ, List.getElem_cons_zero, List.setIfInBounds_toArray, List.set_cons_zero, List.set_cons_succ]
              refine wpAny_take (i := 10) (v := ?v10ap) rfl (by kernel_rfl) (by kernel_rfl) (by kernel_rfl) (fun _ _ _ h => h) (Or.inl ⟨by rfl, ?y10ap⟩) ?r10ap
              case y10ap => intro w; go_simp; with_reducible rfl
              try simp only [Act.put, List.getElem_toArray, List.getElem_cons_succ, List.getElem_cons_zero, List.setIfInBounds_toArray, List.set_cons_zero, List.set_cons_succ]
              try rw [hwrap]
              refine wpAny_take (i := 11) (v := ?v11ap) rfl (by kernel_rfl) (by kernel_rfl) (by kernel_rfl) (fun _ _ _ h => h) (Or.inl ⟨by rfl, ?y11ap⟩) ?r11ap
              case y11ap => intro w; go_simp; with_reducible rfl
              try simp only [Act.put, List.getElem_toArray, List.getElem_cons_succ, List.getElem_cons_zero, List.setIfInBounds_toArray, List.set_cons_zero, List.set_cons_succ]
              try rw [hd2]
              refine wpAny_take (i := 12) (v := ?v12ap) rfl (by kernel_rfl) (by kernel_rfl) (by kernel_rfl) (fun _ _ _ h => h) (Or.inl ⟨by rfl, ?y12ap⟩) ?r12ap
              case y12ap => intro w; go_simp; with_reducible rfl
              try simp only [Act.put, List.getElem_toArray, List.getElem_cons_succ, List.getElem_cons_zero, List.setIfInBounds_toArray, List.set_cons_zero, List.set_cons_succ]
              try rw [show (false != false) = false from rfl]
              try rw [show (true != true) = false from rfl]
              try rw [show (!true) = false from rfl]
              refine wpAny_take (i := 13) (v := ?v13ap) rfl (by kernel_rfl) (by kernel_rfl) (by kernel_rfl) (fun _ _ _ h => h) (Or.inl ⟨by rfl, ?y13ap⟩) ?r13ap
              case y13ap => intro w; go_simp; with_reducible rfl
              try simp only [Act.put, List.getElem_toArray, List.getElem_cons_succ, List.getElem_cons_zero, List.setIfInBounds_toArray, List.set_cons_zero, List.set_cons_succ]
              refine wpAny_done (by kernel_rfl) ?_ _
              go_wp2
              exact ⟨⟨j + 1, _, _, a5, c5, by push_cast; omega, by push_cast; rfl, rfl, HF5.out.1.1, HF5.out.1.2, later_later _ _ _ _ _, by have h := HF5.out.2.2.2.1; rw [later_later] at h; exact h⟩, by simp [intOf]; omega⟩
            · go_simp
              refine hK _ _ ?_
              clear hK K
              try simp only [Act.put, List.getElem_toArray, List.getElem_cons_succ, List.getElem_cons_zero, List.setIfInBounds_toArray, List.set_cons_zero, List.set_cons_succ]
              refine wpAny_take (i := 10) (v := ?v10bp) rfl (by kernel_rfl) (by kernel_rfl) (by kernel_rfl) (fun _ _ _ h => h) (Or.inl ⟨by rfl, ?y10bp⟩) ?r10bp
              case y10bp => intro w; go_simp; with_reducible rfl
              try simp only [Act.put, List.getElem_toArray, List.getElem_cons_succ, List.getElem_cons_zero, List.setIfInBounds_toArray, List.set_cons_zero, List.set_cons_succ]
              try rw [hwrap]
              refine wpAny_take (i := 11) (v := ?v11bp) rfl (by kernel_rfl) (by kernel_rfl) (by kernel_rfl) (fun _ _ _ h => h) (Or.inl ⟨by rfl, ?y11bp⟩) ?r11bp
              case y11bp => intro w; go_simp; with_reducible rfl
              try simp only [Act.put, List.getElem_toArray, List.getElem_cons_succ, List.getElem_cons_zero, List.setIfInBounds_toArray, List.set_cons_zero, List.set_cons_succ]
              try rw [hd2]
              refine wpAny_ready (rs := [5]) (by kernel_rfl) (by simp) ?_
              refine AllReady.cons rfl (fun K hK => ?_) AllReady.nil
              go_simp
              refine (contains_n _ _ _ _ (sortI (toldL cn (itL cn xs j))) _ ?hi1bp ?hi2bp ?hi3bp).mono ?_
              case hi1bp => exact HF5.out.2.1
              case hi2bp => exact HF5.out.2.2.1
              case hi3bp => exact ints_d HF5.out.2.2.2.2
              rintro e w1 ⟨rfl, rfl⟩
              rw [HD1.out]
              refine hK _ _ ?_
              clear hK K
              try simp only [Act.put, List.getElem_toArray, List.getElem_cons_succ, List.getElem_cons_zero, List.setIfInBounds_toArray, List.set_cons_zero, List.set_cons_succ]
              refine wpAny_take (i := 12) (v := ?v12bp) rfl (by kernel_rfl) (by kernel_rfl) (by kernel_rfl) (fun _ _ _ h => h) (Or.inl ⟨by rfl, ?y12bp⟩) ?r12bp
              case y12bp => intro w; go_simp; with_reducible rfl
              try simp only [Act.put, List.getElem_toArray, List.getElem_cons_succ, List.getElem_cons_zero, List.setIfInBounds_toArray, List.set_cons_zero, List.set_cons_succ]
              try rw [show (false != false) = false from rfl]
              try rw [show (true != true) = false from rfl]
              try rw [show (!true) = false from rfl]
              refine wpAny_take (i := 13) (v := ?v13bp) rfl (by kernel_rfl) (by kernel_rfl) (by kernel_rfl) (fun _ _ _ h => h) (Or.inl ⟨by rfl, ?y13bp⟩) ?r13bp
              case y13bp => intro w; go_simp; with_reducible rfl
              try simp only [Act.put, List.getElem_toArray, List.getElem_cons_succ, List.getElem_cons_zero, List.setIfInBounds_toArray, List.set_cons_zero, List.set_cons_succ]
              refine wpAny_done (by kernel_rfl) ?_ _
              go_wp2
              exact ⟨⟨j + 1, _, _, a5, c5, by push_cast; omega, by push_cast; rfl, rfl, HF5.out.1.1, HF5.out.1.2, later_later _ _ _ _ _, by have h := HF5.out.2.2.2.1; rw [later_later] at h; exact h⟩, by simp [intOf]; omega⟩
          · have HD1 := Lib.hid hd1
            clear hd1
            go_wp2_with (go_at_call 26; refine (HQ.out _ (SlotsAt.below HSL.out (by repeat (first | exact Below.refl _ _ | apply bs_later | apply bs_alloc | apply bs_drew | apply bs_drewN)))).mono ?_; rintro e w1 ⟨a5, c5, a6, n6, c6, rfl, hf, hb1⟩; obtain ⟨l5, d5, rfl⟩ := later_of hb1; have HF5 := Lib.hid hf; clear hb1 hf)
            refine wp_region_any (by kernel_rfl) ?_
            try (change wpAny _ _ _ _ _ _ _ (World.drew _))
            refine wpAny_take (i := 0) (v := ?v0q) rfl (by kernel_rfl) (by kernel_rfl) (by kernel_rfl) (fun _ _ _ h => h) (Or.inl ⟨by rfl, ?y0q⟩) ?r0q
            case y0q => intro w; go_simp; with_reducible rfl
            try simp only [Act.put, List.getElem_toArray, List.getElem_cons_succ, List.getElem_cons_zero, List.setIfInBounds_toArray, List.set_cons_zero, List.set_cons_succ]
            refine wpAny_take (i := 1) (v := ?v1q) rfl (by kernel_rfl) (by kernel_rfl) (by kernel_rfl) (fun _ _ _ h => h) (Or.inl ⟨by rfl, ?y1q⟩) ?r1q
            case y1q => intro w; go_simp; with_reducible rfl
            try simp only [Act.put, List.getElem_toArray, List.getElem_cons_succ, List.getElem_cons_zero, List.setIfInBounds_toArray, List.set_cons_zero, List.set_cons_succ]
            refine wpAny_take (i := 2) (v := ?v2q) rfl (by kernel_rfl) (by kernel_rfl) (by kernel_rfl) (fun _ _ _ h => h) (Or.inl ⟨by rfl, ?y2q⟩) ?r2q
            case y2q => intro w; go_simp; with_reducible rfl
            try simp only [Act.put, List.getElem_toArray, List.getElem_cons_succ, List.getElem_cons_zero, List.setIfInBounds_toArray, List.set_cons_zero, List.set_cons_succ]
            refine wpAny_take (i := 3) (v := ?v3q) rfl (by kernel_rfl) (by kernel_rfl) (by kernel_rfl) (fun _ _ _ h => h) (Or.inl ⟨by rfl, ?y3q⟩) ?r3q
            case y3q => intro w; go_simp; with_reducible rfl
            try simp only [Act.put, List.getElem_toArray, List.getElem_cons_succ, List.getElem_cons_zero, List.setIfInBounds_toArray, List.set_cons_zero, List.set_cons_succ]
            refine wpAny_take (i := 4) (v := ?v4q) rfl (by kernel_rfl) (by kernel_rfl) (by kernel_rfl) (fun _ _ _ h => h) (Or.inl ⟨by rfl, ?y4q⟩) ?r4q
            case y4q => intro w; go_simp; with_reducible rfl
            try simp only [Act.put, List.getElem_toArray, List.getElem_cons_succ, List.getElem_cons_zero, List.setIfInBounds_toArray, List.set_cons_zero, List.set_cons_succ]
            refine wpAny_take (i := 6) (v := ?v6q) rfl (by kernel_rfl) (by kernel_rfl) (by kernel_rfl) (fun _ _ _ h => h) (Or.inl ⟨by rfl, ?y6q⟩) ?r6q
            case y6q => intro w; go_simp; with_reducible rfl
            try simp only [Act.put, List.getElem_toArray, List.getElem_cons_succ, List.getElem_cons_zero, List.setIfInBounds_toArray, List.set_cons_zero, List.set_cons_succ]
            refine wpAny_take (i := 7) (v := ?v7q) rfl (by kernel_rfl) (by kernel_rfl) (by kernel_rfl) (fun _ _ _ h => h) (Or.inl ⟨by rfl, ?y7q⟩) ?r7q
            case y7q => intro w; go_simp; with_reducible rfl
            try simp only [Act.put, List.getElem_toArray, List.getElem_cons_succ, List.getElem_cons_zero, List.setIfInBounds_toArray, List.set_cons_zero, List.set_cons_succ]
            refine wpAny_take (i := 9) (v := ?v9q) rfl (by kernel_rfl) (by kernel_rfl) (by kernel_rfl) (fun _ _ _ h => h) (Or.inl ⟨by rfl, ?y9q⟩) ?r9q
            case y9q => intro w; go_simp; with_reducible rfl
            try simp only [Act.put, List.getElem_toArray, List.getElem_cons_succ, List.getElem_cons_zero, List.setIfInBounds_toArray, List.set_cons_zero, List.set_cons_succ]
            refine wpAny_ready (rs := [5, 8]) (by kernel_rfl) (by simp) ?_
            refine AllReady.cons rfl (fun K hK => ?_) (AllReady.cons rfl (fun K hK => ?_) AllReady.nil)
            · go_simp
              refine (contains_n _ _ _ _ (sortI (toldL cn (itL cn xs j))) _ ?hi1aq ?hi2aq ?hi3aq).mono ?_
              case hi1aq => exact HF5.out.2.1
              case hi2aq => exact HF5.out.2.2.1
              case hi3aq => exact ints_d HF5.out.2.2.2.2
              rintro e w1 ⟨rfl, rfl⟩
              rw [HD1.out]
              refine hK _ _ ?_
              clear hK K
              try simp only [Act.put, List.getElem_toArray, List.getElem_cons_succ, List.getElem_cons_zero, List.setIfInBounds_toArray, List.set_cons_zero, List.set_cons_succ]
              refine wpAny_ready (rs := [8]) (by kernel_rfl) (by simp) ?_
              refine AllReady.cons rfl (fun K hK => ?_) AllReady.nil
              go_simp
              refine hK _ _ ?_
              clear hK K
              try simp only [Act.put, List.getElem_toArray, List.getElem_cons_succ, List.getElem_cons_zero, List.setIfInBounds_toArray, List.set_cons_zero, List.set_cons_succ]
              refine wpAny_take (i := 10) (v := ?v10aq) rfl (by kernel_rfl) (by kernel_rfl) (by kernel_rfl) (fun _ _ _ h => h) (Or.inl ⟨by rfl, ?y10aq⟩) ?r10aq
              case y10aq => intro w; go_simp; with_reducible rfl
              try simp only [Act.put, List.getElem_toArray, List.getElem_cons_succ, List.getElem_cons_zero, List.setIfInBounds_toArray, List.set_cons_zero, List.set_cons_succ]
              try rw [hwrap]
              refine wpAny_take (i := 11) (v := ?v11aq) rfl (by kernel_rfl) (by kernel_rfl) (by kernel_rfl) (fun _ _ _ h => h) (Or.inl ⟨by rfl, ?y11aq⟩) ?r11aq
              case y11aq => intro w; go_simp; with_reducible rfl
              try simp only [Act.put, List.getElem_toArray, List.getElem_cons_succ, List.getElem_cons_zero, List.setIfInBounds_toArray, List.set_cons_zero, List.set_cons_succ]
              try rw [hd2]
              refine wpAny_take (i := 12) (v := ?v12aq) rfl (by kernel_rfl) (by kernel_rfl) (by kernel_rfl) (fun _ _ _ h => h) (Or.inl ⟨by rfl, ?y12aq⟩) ?r12aq
              case y12aq => intro w; go_simp; with_reducible rfl
              try simp only [Act.put, List.getElem_toArray, List.getElem_cons_succ, List.getElem_cons_zero, List.setIfInBounds_toArray, List.set_cons_zero, List.set_cons_succ]
              try rw [show (false != false) = false from rfl]
              try rw [show (true != true) = false from rfl]
              try rw [show (!true) = false from rfl]
              refine wpAny_take (i := 13) (v := ?v13aq) rfl (by kernel_rfl) (by kernel_rfl) (by kernel_rfl) (fun _ _ _ h => h) (Or.inl ⟨by rfl, ?y13aq⟩) ?r13aq
              case y13aq => intro w; go_simp; with_reducible rfl
              try simp only [Act.put, List.getElem_toArray, List.getElem_cons_succ, List.getElem_cons_zero, List.setIfInBounds_toArray, List.set_cons_zero, List.set_cons_succ]
              refine wpAny_done (by kernel_rfl) ?_ _
              go_wp2
              exact ⟨⟨j + 1, _, _, a5, c5, by push_cast; omega, by push_cast; rfl, rfl, HF5.out.1.1, HF5.out.1.2, later_later _ _ _ _ _, by have h := HF5.out.2.2.2.1; rw [later_later] at h; exact h⟩, by simp [intOf]; omega⟩
            · go_simp
              refine hK _ _ ?_
              clear hK K
              try simp only [Act.put, List.getElem_toArray, List.getElem_cons_succ, List.getElem_cons_zero, List.setIfInBounds_toArray, List.set_cons_zero, List.set_cons_succ]
              refine wpAny_take (i := 10) (v := ?v10bq) rfl (by kernel_rfl) (by kernel_rfl) (by kernel_rfl) (fun _ _ _ h => h) (Or.inl ⟨by rfl, ?y10bq⟩) ?r10bq
              case y10bq => intro w; go_simp; with_reducible rfl
              try simp only [Act.put, List.getElem_toArray, List.getElem_cons_succ, List.getElem_cons_zero, List.setIfInBounds_toArray, List.set_cons_zero, List.set_cons_succ]
              try rw [hwrap]
              refine wpAny_take (i := 11) (v := ?v11bq) rfl (by kernel_rfl) (by kernel_rfl) (by kernel_rfl) (fun _ _ _ h => h) (Or.inl ⟨by rfl, ?y11bq⟩) ?r11bq
              case y11bq => intro w; go_simp; with_reducible rfl
              try simp only [Act.put, List.getElem_toArray, List.getElem_cons_succ, List.getElem_cons_zero, List.setIfInBounds_toArray, List.set_cons_zero, List.set_cons_succ]
              try rw [hd2]
              refine wpAny_ready (rs := [5]) (by kernel_rfl) (by simp) ?_
              refine AllReady.cons rfl (fun K hK => ?_) AllReady.nil
              go_simp
              refine (contains_n _ _ _ _ (sortI (toldL cn (itL cn xs j))) _ ?hi1bq ?hi2bq ?hi3bq).mono ?_
              case hi1bq => exact HF5.out.2.1
              case hi2bq => exact HF5.out.2.2.1
              case hi3bq => exact ints_d HF5.out.2.2.2.2
              rintro e w1 ⟨rfl, rfl⟩
              rw [HD1.out]
              refine hK _ _ ?_
              clear hK K
              try simp only [Act.put, List.getElem_toArray, List.getElem_cons_succ, List.getElem_cons_zero, List.setIfInBounds_toArray, List.set_cons_zero, List.set_cons_succ]
              refine wpAny_take (i := 12) (v := ?v12bq) rfl (by kernel_rfl) (by kernel_rfl) (by kernel_rfl) (fun _ _ _ h => h) (Or.inl ⟨by rfl, ?y12bq⟩) ?r12bq
              case y12bq => intro w; go_simp; with_reducible rfl
              try simp only [Act.put, List.getElem_toArray, List.getElem_cons_succ, List.getElem_cons_zero, List.setIfInBounds_toArray, List.set_cons_zero, List.set_cons_succ]
              try rw [show (false != false) = false from rfl]
              try rw [show (true != true) = false from rfl]
              try rw [show (!true) = false from rfl]
              refine wpAny_take (i := 13) (v := ?v13bq) rfl (by kernel_rfl) (by kernel_rfl) (by kernel_rfl) (fun _ _ _ h => h) (Or.inl ⟨by rfl, ?y13bq⟩) ?r13bq
              case y13bq => intro w; go_simp; with_reducible rfl
              try simp only [Act.put, List.getElem_toArray, List.getElem_cons_succ, List.getElem_cons_zero, List.setIfInBounds_toArray, List.set_cons_zero, List.set_cons_succ]
              refine wpAny_done (by kernel_rfl) ?_ _
              go_wp2
              exact ⟨⟨j + 1, _, _, a5, c5, by push_cast; omega, by push_cast; rfl, rfl, HF5.out.1.1, HF5.out.1.2, later_later _ _ _ _ _, by have h := HF5.out.2.2.2.1; rw [later_later] at h; exact h⟩, by simp [intOf]; omega⟩
        · have hje : (j : Int) = cn + wait := by omega
          clear hsl
          go_wp2
          go_ret
          exact ⟨rfl, (by repeat (first | exact HB0.out | apply bs_later | apply bs_alloc | apply bs_drew | apply bs_drewN))⟩
  · have PP : ∀ w, SlotsAt w ra ss → Calls Try.prog 25 #[.agg #[.int .i64 cn, .int .i64 cs, .int .i64 cy, .int .i64 cb], .slice ra rn rc, .int .i64 node, .int .i64 wait] w (Ret (.tuple #[.slice none 0 0, .bool false, .int .i64 (putE cn cs cy cb node wait ss)]) w) := fun w h =>
      (put_any cn cs cy cb node wait ss ra rn rc w hnc hcm hd h).mono fun e w' h => by
        obtain ⟨hb, ⟨h, -⟩ | ⟨-, rfl⟩⟩ := h
        · exact absurd h h0
        · exact ⟨rfl, hb⟩
    have HP := Lib.hid PP
    have HT := Lib.hid h
    have h0' : (putE cn cs cy cb node wait ss != 0) = true := by simpa using h0
    have h0'' : (putE cn cs cy cb node wait ss == 0) = false := by simpa using h0
    clear PP h h0 hd
    go_enter Try.func7, Try.ntmps7
    go_wp2_with (first
      | (go_at_call 36; refine (rings_any _).mono ?_; rintro e w1 ⟨rfl, hb1⟩; obtain ⟨l0, d0, rfl⟩ := later_of hb1; clear hb1)
      | (go_at_call 25; refine (HP.out _ (SlotsAt.below HT.out (by repeat (first | exact Below.refl _ _ | apply bs_later | apply bs_alloc | apply bs_drew | apply bs_drewN)))).mono ?_; rintro e w1 ⟨rfl, hb1⟩; obtain ⟨l2, d2, rfl⟩ := later_of hb1; clear hb1))
    go_ret
    exact ⟨rfl, (by repeat (first | exact Below.refl _ _ | apply bs_later | apply bs_alloc | apply bs_drew | apply bs_drewN))⟩
end Go.Proofs.Ytffhfpdmfegcpac.ringComes
