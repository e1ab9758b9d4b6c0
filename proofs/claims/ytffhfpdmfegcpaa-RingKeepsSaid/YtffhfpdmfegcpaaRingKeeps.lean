/- ringdovekeep.RingKeeps: for every configuration and ring, the call returns true. -/
import Derived.Test.YtffhfpdmfegcpaaRingsA
import Derived.Test.YtffhfpdmfegcpaaRingUnder
import Derived.Test.YtffhfpdmfegcpaaRingDel
import Derived.Test.YtffhfpdmfegcpaaEqInt
import Derived.Deep.DeepCutAuto
import Derived.Deep.RegionWith
namespace Go.Proofs.Ytffhfpdmfegcpaa.ringKeeps
open Go.ChangeShapes Go.WideShapes Go.ChangeAt Go.RowKit
open Go.ChangeMaps (open_string shut_string)
open Go.Proofs.Ytffhfpdmfegcpaa.base Go.Proofs.Ytffhfpdmfegcpaa.knob Go.Proofs.Ytffhfpdmfegcpaa.flat Go.Proofs.Ytffhfpdmfegcpaa.table Go.Proofs.Ytffhfpdmfegcpaa.addr Go.Proofs.Ytffhfpdmfegcpaa.slot
set_option linter.unusedVariables false
set_option linter.unusedSimpArgs false

theorem ints_below {k : IntKind} {w w' : World} {a : Option Addr} {xs : List Int} (h : IntsAt k w a xs) (hb : Below w.heap.size w w') : IntsAt k w' a xs := by
  rcases h with h | ⟨b, off, h1, h2⟩
  · exact .inl h
  · refine .inr ⟨b, off, h1, fun i x hx => ?_⟩
    have hc := h2 i x hx
    rw [hb.cell (p := ⟨b, off + i, none⟩) (lt_of_cell hc)]
    exact hc
theorem ints_d {k : IntKind} {W : World} {l : Array Obj} {d d' : Nat} {a : Option Addr} {xs : List Int} (h : IntsAt k (W.later l d) a xs) : IntsAt k (W.later l d') a xs := h
theorem later_lt {W : World} {g : Nat} (h : g < W.heap.size) (l : Array Obj) (d : Nat) : g < (W.later l d).heap.size := by simp; omega
theorem later_cell {W : World} {g i : Nat} {u : Value} (h : g < W.heap.size) (hc : W.cell? ⟨g, i, none⟩ = some u) (l : Array Obj) (d : Nat) : (W.later l d).cell? ⟨g, i, none⟩ = some u := by
  rw [(bs_later (Below.refl _ _) l d : Below W.heap.size W (W.later l d)).cell (p := ⟨g, i, none⟩) h]; exact hc
theorem told_later {W : World} {a : Option Addr} {T : List Int} (h : ToldAt W.heap.size W a T) (l : Array Obj) (d : Nat) : ToldAt W.heap.size (W.later l d) a T := by
  rcases h with h | ⟨b, off, h1, h2, h3, h4⟩
  · exact .inl h
  · exact .inr ⟨b, off, h1, h2, later_lt h2 _ _, fun i x hx => later_cell h2 (h4 i x hx) _ _⟩
/-- under, its number of nodes given -/
theorem under_n (ss : List S4) (N : Nat) (hN : (fullL ss).length = N) (a : Option Addr) (n c : Nat) (w : World) (hn : n ≤ 8) (hd : ss.length = n) (h : SlotsAt w a ss) :
    Calls Try.prog 40 #[.slice a n c] w fun e w' => ∃ a2 c2, e = .returned (.slice a2 N c2) ∧ w'.ownsRow w.heap.size 3 1 (.slice a2 N c2) N ((sortI (fullL ss)).map (Value.int .i64)) ∧ Below w.heap.size w w' :=
  (under1_any ss a n c w hn hd h).mono fun e w' h => by
    obtain ⟨v, rfl, ho, hb⟩ := h
    rw [hN] at ho
    obtain ⟨a2, c2, rfl⟩ := own_form ho
    exact ⟨a2, c2, rfl, ho, hb⟩
theorem equal_n (a b : Option Addr) (c d n : Nat) (w : World) (xs : List Int) (hl : xs.length = n) (hn : n ≤ maxLen) (ha : IntsAt .i64 w a xs) (hb : IntsAt .i64 w b xs) :
    Calls Try.prog 14 #[.slice a n c, .slice b n d] w fun e w' => e = .returned (.bool true) ∧ ∃ q, w' = w.drewN q := by
  subst hl
  have := eqInt.equal_same a b c d w xs xs rfl hn ha hb
  rwa [decide_eq_true rfl] at this
theorem step_n (cn cs cy cb : Int) (ss : List S4) (m : Nat) (hm : (toldL cn ss).length = m) (a : Option Addr) (n c : Nat) (w : World) (hnc : n ≤ c) (hcm : c ≤ maxLen) (hd : ss.length = n) (h : SlotsAt w a ss) (h0 : ringE cn cs cy cb ss = 0) :
    Calls Try.prog 39 #[.agg #[.int .i64 cn, .int .i64 cs, .int .i64 cy, .int .i64 cb], .slice a n c] w fun e w' => ∃ a2 c2 a3 c3, e = .returned (.tuple #[.slice a2 n c2, .slice a3 m c3, .int .i64 0]) ∧ (n ≤ c2 ∧ c2 ≤ maxLen ∧ SlotsAt w' a2 (stepL cn ss) ∧ IntsAt .i64 w' a3 (sortI (toldL cn ss))) ∧ Below w.heap.size w w' :=
  (step_any cn cs cy cb ss a n c w hnc hcm hd h).mono fun e w' h => by
    obtain ⟨hb, ⟨-, a, c, a2, c2, rfl, h1, h2, h3, h4, hs, ht⟩ | ⟨h, -⟩⟩ := h
    · exact ⟨a, c, a2, c2, by rw [hd, hm], ⟨by omega, h2, hs, ht⟩, hb⟩
    · exact absurd h0 h

set_option maxHeartbeats 4000000 in
set_option maxRecDepth 100000 in
theorem walk_bad (cn cs cy cb : Int) (ss : List S4) (ra : Option Addr) (rn rc : Nat) (w : World) (hnc : rn ≤ rc) (hcm : rc ≤ maxLen) (hd : ss.length = rn) (h : SlotsAt w ra ss) (h0 : ¬ ringE cn cs cy cb ss = 0) :
    Calls Try.prog 10 #[.agg #[.int .i64 cn, .int .i64 cs, .int .i64 cy, .int .i64 cb], .slice ra rn rc] w (Ret (.bool true) w) := by
  have PS : ∀ w, SlotsAt w ra ss → Calls Try.prog 39 #[.agg #[.int .i64 cn, .int .i64 cs, .int .i64 cy, .int .i64 cb], .slice ra rn rc] w (Ret (.tuple #[.slice none 0 0, .slice none 0 0, .int .i64 (ringE cn cs cy cb ss)]) w) := fun w h =>
    (step_any cn cs cy cb ss ra rn rc w hnc hcm hd h).mono fun e w' h => by
      obtain ⟨hb, ⟨h, -⟩ | ⟨-, rfl⟩⟩ := h
      · exact absurd h h0
      · exact ⟨rfl, hb⟩
  have HS := Lib.hid PS
  have HT := Lib.hid h
  have h0' : (ringE cn cs cy cb ss != 0) = true := by simpa using h0
  clear PS h h0 hd
  go_enter Try.func10, Try.ntmps10
  go_wp2_with (first
    | (go_at_call 38; refine (rings_any _).mono ?_; rintro e w1 ⟨rfl, hb1⟩; obtain ⟨l0, d0, rfl⟩ := later_of hb1; clear hb1)
    | (go_at_call 39; refine (HS.out _ (SlotsAt.below HT.out (by repeat (first | exact Below.refl _ _ | apply bs_later | apply bs_alloc | apply bs_drew | apply bs_drewN)))).mono ?_; rintro e w1 ⟨rfl, hb1⟩; obtain ⟨l2, d2, rfl⟩ := later_of hb1; clear hb1))
  go_ret
  exact ⟨rfl, (by repeat (first | exact Below.refl _ _ | apply bs_later | apply bs_alloc | apply bs_drew | apply bs_drewN))⟩

set_option maxHeartbeats 4000000 in
set_option maxRecDepth 100000 in
theorem walk_ok (cn cs cy cb : Int) (ss : List S4) (ra : Option Addr) (rn rc : Nat) (w : World) (hnc : rn ≤ rc) (hcm : rc ≤ maxLen) (hd : ss.length = rn) (h : SlotsAt w ra ss) (h0 : ringE cn cs cy cb ss = 0) :
    Calls Try.prog 10 #[.agg #[.int .i64 cn, .int .i64 cs, .int .i64 cy, .int .i64 cb], .slice ra rn rc] w (Ret (.bool true) w) := by
  have hlen := ringE_len h0
  have hok := ringOK_iff.1 hlen.2.2.2
  have hcfg := hlen.2.2.1
  have hcn : 2 ≤ cn ∧ cn ≤ 8 := ⟨hcfg.1, hcfg.2.1⟩
  have hn1 : 1 ≤ rn := by omega
  have hn8 : rn ≤ 8 := by omega
  obtain ⟨M, hM⟩ : ∃ M, (fullL ss).length = M := ⟨_, rfl⟩
  obtain ⟨N, hN⟩ : ∃ N, (fullL (stepL cn ss)).length = N := ⟨_, rfl⟩
  obtain ⟨m, hm⟩ : ∃ m, (toldL cn ss).length = m := ⟨_, rfl⟩
  have hsum : M = N + m := by rw [← hM, ← hN, ← hm]; exact len_told ss
  have hM8 : M ≤ 8 := by rw [← hM]; unfold fullL; rw [List.length_map]; exact Nat.le_trans (List.length_filter_le _ _) (by omega)
  have hls : (stepL cn ss).length = rn := by rw [len_stepL, hd]
  have hE2 : ringE cn cs cy cb (stepL cn ss) = 0 := ringE_ok hcfg (by omega) (by omega) (stepL_ok hcn.1 hok)
  have hleft := left_eq hok
  generalize hLe : sortI (fullL (stepL cn ss)) = L at *
  have hLN : L.length = N := by rw [← hLe, len_sortI, hN]
  have hTm : (sortI (toldL cn ss)).length = m := by rw [len_sortI, hm]
  have HS := Lib.hid fun w h => step_n cn cs cy cb ss m hm ra rn rc w hnc hcm hd h h0
  have HU := Lib.hid fun w h => under_n ss M hM ra rn rc w hn8 hd h
  have HU2 := Lib.hid fun w a c h => under_n (stepL cn ss) N hN a rn c w hn8 hls h
  rw [hLe] at HU2
  have PC := fun w a c h1 h2 h => ringCheck_any cn cs cy cb (stepL cn ss) a rn c w h1 h2 hls h
  rw [hE2] at PC
  have HC := Lib.hid PC
  have HDL := Lib.hid fun (base g : Nat) (a : Option Addr) (c : Nat) (v : Value) (w : World) h1 h2 h3 h4 h5 => del_own (T := sortI (toldL cn ss)) (a := a) (c := c) hTm (by unfold maxLen; omega) (zs := sortI (fullL ss)) (base := base) (n := M) (g := g) (v := v) (w := w) hM8 h1 h2 h3 h4 h5
  rw [hleft] at HDL
  have HT := Lib.hid h
  have HLN := Lib.hid hLN
  have hsumI : ((M : Int) == (N : Int) + (m : Int)) = true := by rw [hsum]; simp
  have hm8 : m ≤ 8 := by omega
  have hwrap2 : IntKind.i64.wrap ((N : Int) + (m : Int)) = (N : Int) + (m : Int) := by rw [IntKind.wrap_i64]; omega
  have hN8 : N ≤ 8 := by omega
  clear hlen hok hcfg hcn hM hN hm hleft hLe hTm PC h h0 hd hls hE2 hLN hsum
  go_enter Try.func10, Try.ntmps10
  go_upto_region 7 with (first
    | (go_at_call 38; refine (rings_any _).mono ?_; rintro e w1 ⟨rfl, hb1⟩; obtain ⟨l0, d0, rfl⟩ := later_of hb1; clear hb1)
    | (go_at_call 39; refine (HS.out _ (SlotsAt.below HT.out (by repeat (first | exact Below.refl _ _ | apply bs_later | apply bs_alloc | apply bs_drew | apply bs_drewN)))).mono ?_; rintro e w1 ⟨a2, c2, a3, c3, rfl, hf, hb1⟩; obtain ⟨l2, d2, rfl⟩ := later_of hb1; have HF := Lib.hid hf; clear hb1 hf))
  obtain ⟨Y, hY⟩ : ∃ W, W = (((w.alloc (.cells #[.int .i64 cn, .int .i64 cs, .int .i64 cy, .int .i64 cb] 42)).later l0 d0).later l2 d2).alloc (.cells #[.slice a3 m c3] 24) := ⟨_, rfl⟩
  have hbY : Below w.heap.size w Y := by rw [hY]; exact (by repeat (first | exact Below.refl _ _ | apply bs_later | apply bs_alloc | apply bs_drew | apply bs_drewN))
  have k0 : Y.cell? ⟨w.heap.size, 0, none⟩ = some (.int .i64 cn) := by rw [hY]; simp [go_sem]
  have k1 : Y.cell? ⟨w.heap.size, 1, none⟩ = some (.int .i64 cs) := by rw [hY]; simp [go_sem]
  have k2 : Y.cell? ⟨w.heap.size, 2, none⟩ = some (.int .i64 cy) := by rw [hY]; simp [go_sem]
  have k3 : Y.cell? ⟨w.heap.size, 3, none⟩ = some (.int .i64 cb) := by rw [hY]; simp [go_sem]
  have kt : Y.cell? ⟨w.heap.size + 1 + l0.size + l2.size, 0, none⟩ = some (.slice a3 m c3) := by rw [hY]; simp [go_sem]
  have HX := Lib.hid (SlotsAt.below HF.out.2.2.1 (by rw [hY]; exact (by repeat (first | exact Below.refl _ _ | apply bs_later | apply bs_alloc | apply bs_drew | apply bs_drewN)) : Below _ _ Y))
  have HTI := Lib.hid (ints_below HF.out.2.2.2 (by rw [hY]; exact (by repeat (first | exact Below.refl _ _ | apply bs_later | apply bs_alloc | apply bs_drew | apply bs_drewN)) : Below _ _ Y))
  have HXC := Lib.hid (And.intro HF.out.1 HF.out.2.1)
  have HTY := Lib.hid (SlotsAt.below HT.out hbY)
  have HBY := Lib.hid hbY
  have kin : inB Y w.heap.size := lt_of_cell k0
  have ktn := lt_of_cell kt
  have ktn' : inB Y (w.heap.size + 1 + l0.size + l2.size) := ktn
  have HTA : Hid (ToldAt Y.heap.size Y a3 (sortI (toldL cn ss))) := Lib.hid (by
    rcases HTI.out with h | ⟨b2, off, h5, h6⟩
    · exact .inl h
    · rcases hT0 : sortI (toldL cn ss) with _ | ⟨y, ys⟩
      · exact .inl rfl
      · have := lt_of_cell (h6 0 y (by rw [hT0]; rfl))
        exact .inr ⟨b2, off, h5, this, this, by rw [← hT0]; exact h6⟩)
  rw [← hY]
  clear hY hbY HF HS HT HTI
  generalize hTG : w.heap.size + 1 + l0.size + l2.size = TG at *
  have HTN := Lib.hid ktn
  have HKT := Lib.hid kt
  clear hTG ktn
  go_wp2_with (first
    | (go_at_call 40; refine (HU.out _ (SlotsAt.below HTY.out (by repeat (first | exact Below.refl _ _ | apply bs_later | apply bs_alloc | apply bs_drew | apply bs_drewN)))).mono ?_; rintro e w1 ⟨a4, c4, rfl, hf, hb1⟩; obtain ⟨l3, d3, rfl⟩ := later_of hb1; have HO := Lib.hid hf; clear hb1 hf)
    | (go_at_call 42; refine (HDL.out Y.heap.size TG a3 c3 _ (Y.later l3 d3) HO.out HTN.out (later_lt HTN.out _ _) (later_cell HTN.out HKT.out _ _) (told_later HTA.out _ _)).mono ?_; rintro e w1 ⟨v5, rfl, hf, hb1⟩; have hb5 := hb1 Y (Nat.le_refl _) (by repeat (first | exact Below.refl _ _ | apply bs_later | apply bs_alloc | apply bs_drew | apply bs_drewN)); obtain ⟨l4, d4, rfl⟩ := later_of hb5; rw [HLN.out] at hf; obtain ⟨a5, c5, rfl⟩ := own_form hf; have HL5 := Lib.hid (own_ints hf).2; clear hf hb1 hb5))
  refine wp_region_any (by kernel_rfl) ?_
  try (change wpAny _ _ _ _ _ _ _ (World.drew _))
  refine wpAny_take (i := 1) (v := ?v1) rfl (by kernel_rfl) (by kernel_rfl) (by kernel_rfl) (fun _ _ _ h => h) (Or.inl ⟨by rfl, ?y1⟩) ?r1
  case y1 => intro w; go_simp; with_reducible rfl
  try simp only [Act.put, List.getElem_toArray, List.getElem_cons_succ, List.getElem_cons_zero, List.setIfInBounds_toArray, List.set_cons_zero, List.set_cons_succ]
  refine wpAny_ready (rs := [0]) (by decide +kernel) (by simp) ?_
  refine AllReady.cons rfl (fun K hK => ?_) AllReady.nil
  go_simp
  refine hK _ _ ?_
  clear hK K
  try simp only [Act.put, List.getElem_toArray, List.getElem_cons_succ, List.getElem_cons_zero, List.setIfInBounds_toArray, List.set_cons_zero, List.set_cons_succ]
  refine wpAny_ready (rs := [2]) (by decide +kernel) (by simp) ?_
  refine AllReady.cons rfl (fun K hK => ?_) AllReady.nil
  go_simp
  refine (HC.out _ _ _ HXC.out.1 HXC.out.2 ?hqc).mono ?_
  case hqc => exact SlotsAt.below HX.out (by repeat (first | exact Below.refl _ _ | apply bs_later | apply bs_alloc | apply bs_drew | apply bs_drewN))
  rintro e w1 ⟨rfl, hb1⟩
  obtain ⟨l6, d6, rfl⟩ := later_of hb1
  clear hb1
  refine hK _ _ ?_
  clear hK K
  try simp only [Act.put, List.getElem_toArray, List.getElem_cons_succ, List.getElem_cons_zero, List.setIfInBounds_toArray, List.set_cons_zero, List.set_cons_succ]
  refine wpAny_take (i := 3) (v := ?v3) rfl (by kernel_rfl) (by kernel_rfl) (by kernel_rfl) (fun _ _ _ h => h) (Or.inl ⟨by rfl, ?y3⟩) ?r3
  case y3 => intro w; go_simp; with_reducible rfl
  try simp only [Act.put, List.getElem_toArray, List.getElem_cons_succ, List.getElem_cons_zero, List.setIfInBounds_toArray, List.set_cons_zero, List.set_cons_succ]
  refine wpAny_take (i := 4) (v := ?v4) rfl (by kernel_rfl) (by kernel_rfl) (by kernel_rfl) (fun _ _ _ h => h) (Or.inl ⟨by rfl, ?y4⟩) ?r4
  case y4 => intro w; go_simp; with_reducible rfl
  try simp only [Act.put, List.getElem_toArray, List.getElem_cons_succ, List.getElem_cons_zero, List.setIfInBounds_toArray, List.set_cons_zero, List.set_cons_succ]
  refine wpAny_take (i := 5) (v := ?v5) rfl (by kernel_rfl) (by kernel_rfl) (by kernel_rfl) (fun _ _ _ h => h) (Or.inl ⟨by rfl, ?y5⟩) ?r5
  case y5 => intro w; go_simp; with_reducible rfl
  try simp only [Act.put, List.getElem_toArray, List.getElem_cons_succ, List.getElem_cons_zero, List.setIfInBounds_toArray, List.set_cons_zero, List.set_cons_succ]
  refine wpAny_take (i := 6) (v := ?v6) rfl (by kernel_rfl) (by kernel_rfl) (by kernel_rfl) (fun _ _ _ h => h) (Or.inl ⟨by rfl, ?y6⟩) ?r6
  case y6 => intro w; go_simp; with_reducible rfl
  try simp only [Act.put, List.getElem_toArray, List.getElem_cons_succ, List.getElem_cons_zero, List.setIfInBounds_toArray, List.set_cons_zero, List.set_cons_succ]
  refine wpAny_take (i := 7) (v := ?v7) rfl (by kernel_rfl) (by kernel_rfl) (by kernel_rfl) (fun _ _ _ h => h) (Or.inl ⟨by rfl, ?y7⟩) ?r7
  case y7 => intro w; go_simp; with_reducible rfl
  try simp only [Act.put, List.getElem_toArray, List.getElem_cons_succ, List.getElem_cons_zero, List.setIfInBounds_toArray, List.set_cons_zero, List.set_cons_succ]
  refine wpAny_take (i := 8) (v := ?v8) rfl (by kernel_rfl) (by kernel_rfl) (by kernel_rfl) (fun _ _ _ h => h) (Or.inl ⟨by rfl, ?y8⟩) ?r8
  case y8 => intro w; go_simp; with_reducible rfl
  try simp only [Act.put, List.getElem_toArray, List.getElem_cons_succ, List.getElem_cons_zero, List.setIfInBounds_toArray, List.set_cons_zero, List.set_cons_succ]
  refine wpAny_take (i := 9) (v := ?v9) rfl (by kernel_rfl) (by kernel_rfl) (by kernel_rfl) (fun _ _ _ h => h) (Or.inl ⟨by rfl, ?y9⟩) ?r9
  case y9 => intro w; go_simp; with_reducible rfl
  try simp only [Act.put, List.getElem_toArray, List.getElem_cons_succ, List.getElem_cons_zero, List.setIfInBounds_toArray, List.set_cons_zero, List.set_cons_succ]
  refine wpAny_take (i := 10) (v := ?v10) rfl (by kernel_rfl) (by kernel_rfl) (by kernel_rfl) (fun _ _ _ h => h) (Or.inl ⟨by rfl, ?y10⟩) ?r10
  case y10 => intro w; go_simp; with_reducible rfl
  try simp only [Act.put, List.getElem_toArray, List.getElem_cons_succ, List.getElem_cons_zero, List.setIfInBounds_toArray, List.set_cons_zero, List.set_cons_succ]
  refine wpAny_take (i := 11) (v := ?v11) rfl (by kernel_rfl) (by kernel_rfl) (by kernel_rfl) (fun _ _ _ h => h) (Or.inl ⟨by rfl, ?y11⟩) ?r11
  case y11 => intro w; go_simp; with_reducible rfl
  try simp only [Act.put, List.getElem_toArray, List.getElem_cons_succ, List.getElem_cons_zero, List.setIfInBounds_toArray, List.set_cons_zero, List.set_cons_succ]
  refine wpAny_take (i := 12) (v := ?v12) rfl (by kernel_rfl) (by kernel_rfl) (by kernel_rfl) (fun _ _ _ h => h) (Or.inl ⟨by rfl, ?y12⟩) ?r12
  case y12 => intro w; go_simp; with_reducible rfl
  try simp only [Act.put, List.getElem_toArray, List.getElem_cons_succ, List.getElem_cons_zero, List.setIfInBounds_toArray, List.set_cons_zero, List.set_cons_succ]
  refine wpAny_take (i := 13) (v := ?v13) rfl (by kernel_rfl) (by kernel_rfl) (by kernel_rfl) (fun _ _ _ h => h) (Or.inl ⟨by rfl, ?y13⟩) ?r13
  case y13 => intro w; go_simp; with_reducible rfl
  try simp only [Act.put, List.getElem_toArray, List.getElem_cons_succ, List.getElem_cons_zero, List.setIfInBounds_toArray, List.set_cons_zero, List.set_cons_succ]
  refine wpAny_take (i := 15) (v := ?v15) rfl (by kernel_rfl) (by kernel_rfl) (by kernel_rfl) (fun _ _ _ h => h) (Or.inl ⟨by rfl, ?y15⟩) ?r15
  case y15 => intro w; go_simp; with_reducible rfl
  try simp only [Act.put, List.getElem_toArray, List.getElem_cons_succ, List.getElem_cons_zero, List.setIfInBounds_toArray, List.set_cons_zero, List.set_cons_succ]
  refine wpAny_ready (rs := [14]) (by decide +kernel) (by simp) ?_
  refine AllReady.cons rfl (fun K hK => ?_) AllReady.nil
  go_simp
  refine (HU2.out _ _ _ ?hqu).mono ?_
  case hqu => exact SlotsAt.below HX.out (by repeat (first | exact Below.refl _ _ | apply bs_later | apply bs_alloc | apply bs_drew | apply bs_drewN))
  rintro e w1 ⟨a7, c7, rfl, hf, hb1⟩
  obtain ⟨l7, d7, rfl⟩ := later_of hb1
  have HL7 := Lib.hid (own_ints hf).2
  clear hb1 hf
  refine hK _ _ ?_
  clear hK K
  try simp only [Act.put, List.getElem_toArray, List.getElem_cons_succ, List.getElem_cons_zero, List.setIfInBounds_toArray, List.set_cons_zero, List.set_cons_succ]
  refine wpAny_ready (rs := [16]) (by decide +kernel) (by simp) ?_
  refine AllReady.cons rfl (fun K hK => ?_) AllReady.nil
  go_simp
  refine (equal_n _ _ _ _ _ _ L HLN.out (by unfold maxLen; omega) ?hae ?hbe).mono ?_
  case hae => exact HL7.out
  case hbe => exact ints_below (ints_d (d' := d4 + 1) HL5.out) (by repeat (first | exact Below.refl _ _ | apply bs_later | apply bs_alloc | apply bs_drew | apply bs_drewN))
  rintro e w1 ⟨rfl, q8, rfl⟩
  refine hK _ _ ?_
  clear hK K
  try simp only [Act.put, List.getElem_toArray, List.getElem_cons_succ, List.getElem_cons_zero, List.setIfInBounds_toArray, List.set_cons_zero, List.set_cons_succ]
  refine wpAny_take (i := 17) (v := ?v17) rfl (by kernel_rfl) (by kernel_rfl) (by kernel_rfl) (fun _ _ _ h => h) (Or.inl ⟨by rfl, ?y17⟩) ?r17
  case y17 => intro w; go_simp; with_reducible rfl
  try simp only [Act.put, List.getElem_toArray, List.getElem_cons_succ, List.getElem_cons_zero, List.setIfInBounds_toArray, List.set_cons_zero, List.set_cons_succ]
  refine wpAny_take (i := 18) (v := ?v18) rfl (by kernel_rfl) (by kernel_rfl) (by kernel_rfl) (fun _ _ _ h => h) (Or.inl ⟨by rfl, ?y18⟩) ?r18
  case y18 => intro w; go_simp; with_reducible rfl
  try simp only [Act.put, List.getElem_toArray, List.getElem_cons_succ, List.getElem_cons_zero, List.setIfInBounds_toArray, List.set_cons_zero, List.set_cons_succ]
  refine wpAny_take (i := 19) (v := ?v19) rfl (by kernel_rfl) (by kernel_rfl) (by kernel_rfl) (fun _ _ _ h => h) (Or.inl ⟨by rfl, ?y19⟩) ?r19
  case y19 => intro w; go_simp; with_reducible rfl
  try simp only [Act.put, List.getElem_toArray, List.getElem_cons_succ, List.getElem_cons_zero, List.setIfInBounds_toArray, List.set_cons_zero, List.set_cons_succ]
  refine wpAny_take (i := 20) (v := ?v20) rfl (by kernel_rfl) (by kernel_rfl) (by kernel_rfl) (fun _ _ _ h => h) (Or.inl ⟨by rfl, ?y20⟩) ?r20
  case y20 => intro w; go_simp; with_reducible rfl
  try simp only [Act.put, List.getElem_toArray, List.getElem_cons_succ, List.getElem_cons_zero, List.setIfInBounds_toArray, List.set_cons_zero, List.set_cons_succ]
  refine wpAny_take (i := 23) (v := ?v23) rfl (by kernel_rfl) (by kernel_rfl) (by kernel_rfl) (fun _ _ _ h => h) (Or.inl ⟨by rfl, ?y23⟩) ?r23
  case y23 => intro w; go_simp; with_reducible rfl
  try simp only [Act.put, List.getElem_toArray, List.getElem_cons_succ, List.getElem_cons_zero, List.setIfInBounds_toArray, List.set_cons_zero, List.set_cons_succ]
  refine wpAny_take (i := 24) (v := ?v24) rfl (by kernel_rfl) (by kernel_rfl) (by kernel_rfl) (fun _ _ _ h => h) (Or.inl ⟨by rfl, ?y24⟩) ?r24
  case y24 => intro w; go_simp; with_reducible rfl
  try simp only [Act.put, List.getElem_toArray, List.getElem_cons_succ, List.getElem_cons_zero, List.setIfInBounds_toArray, List.set_cons_zero, List.set_cons_succ]
  refine wpAny_ready (rs := [21, 25]) (by decide +kernel) (by simp) ?_
  refine AllReady.cons rfl (fun K hK => ?_) (AllReady.cons rfl (fun K hK => ?_) AllReady.nil)
  · go_simp
    refine (HU.out _ ?hqv).mono ?_
    case hqv => exact SlotsAt.below HTY.out (by repeat (first | exact Below.refl _ _ | apply bs_later | apply bs_alloc | apply bs_drew | apply bs_drewN))
    rintro e w1 ⟨a9, c9, rfl, hf, hb1⟩
    obtain ⟨l9, d9, rfl⟩ := later_of hb1
    clear hb1 hf
    refine hK _ _ ?_
    clear hK K
    try simp only [Act.put, List.getElem_toArray, List.getElem_cons_succ, List.getElem_cons_zero, List.setIfInBounds_toArray, List.set_cons_zero, List.set_cons_succ]
    refine wpAny_take (i := 22) (v := ?v22a) rfl (by kernel_rfl) (by kernel_rfl) (by kernel_rfl) (fun _ _ _ h => h) (Or.inl ⟨by rfl, ?y22a⟩) ?r22a
    case y22a => intro w; go_simp; with_reducible rfl
    try simp only [Act.put, List.getElem_toArray, List.getElem_cons_succ, List.getElem_cons_zero, List.setIfInBounds_toArray, List.set_cons_zero, List.set_cons_succ]
    refine wpAny_ready (rs := [25]) (by decide +kernel) (by simp) ?_
    refine AllReady.cons rfl (fun K hK => ?_) AllReady.nil
    go_simp
    refine hK _ _ ?_
    clear hK K
    try simp only [Act.put, List.getElem_toArray, List.getElem_cons_succ, List.getElem_cons_zero, List.setIfInBounds_toArray, List.set_cons_zero, List.set_cons_succ]
    refine wpAny_take (i := 26) (v := ?v26a) rfl (by kernel_rfl) (by kernel_rfl) (by kernel_rfl) (fun _ _ _ h => h) (Or.inl ⟨by rfl, ?y26a⟩) ?r26a
    case y26a => intro w; go_simp; with_reducible rfl
    try simp only [Act.put, List.getElem_toArray, List.getElem_cons_succ, List.getElem_cons_zero, List.setIfInBounds_toArray, List.set_cons_zero, List.set_cons_succ]
    refine wpAny_take (i := 27) (v := ?v27a) rfl (by kernel_rfl) (by kernel_rfl) (by kernel_rfl) (fun _ _ _ h => h) (Or.inl ⟨by rfl, ?y27a⟩) ?r27a
    case y27a => intro w; go_simp; with_reducible rfl
    try rw [hwrap2]
    try simp only [Act.put, List.getElem_toArray, List.getElem_cons_succ, List.getElem_cons_zero, List.setIfInBounds_toArray, List.set_cons_zero, List.set_cons_succ]
    refine wpAny_take (i := 28) (v := ?v28a) rfl (by kernel_rfl) (by kernel_rfl) (by kernel_rfl) (fun _ _ _ h => h) (Or.inl ⟨by rfl, ?y28a⟩) ?r28a
    case y28a => intro w; go_simp; with_reducible rfl
    try rw [hsumI]
    try simp only [Act.put, List.getElem_toArray, List.getElem_cons_succ, List.getElem_cons_zero, List.setIfInBounds_toArray, List.set_cons_zero, List.set_cons_succ]
    refine wpAny_take (i := 29) (v := ?v29a) rfl (by kernel_rfl) (by kernel_rfl) (by kernel_rfl) (fun _ _ _ h => h) (Or.inl ⟨by rfl, ?y29a⟩) ?r29a
    case y29a => intro w; go_simp; with_reducible rfl
    try simp only [Act.put, List.getElem_toArray, List.getElem_cons_succ, List.getElem_cons_zero, List.setIfInBounds_toArray, List.set_cons_zero, List.set_cons_succ]
    refine wpAny_take (i := 30) (v := ?v30a) rfl (by kernel_rfl) (by kernel_rfl) (by kernel_rfl) (fun _ _ _ h => h) (Or.inl ⟨by rfl, ?y30a⟩) ?r30a
    case y30a => intro w; go_simp; with_reducible rfl
    try simp only [Act.put, List.getElem_toArray, List.getElem_cons_succ, List.getElem_cons_zero, List.setIfInBounds_toArray, List.set_cons_zero, List.set_cons_succ]
    refine wpAny_done (by kernel_rfl) ?_ _
    go_wp2
    go_ret
    exact ⟨rfl, (by repeat (first | exact HBY.out | apply bs_later | apply bs_alloc | apply bs_drew | apply bs_drewN))⟩
  · go_simp
    refine hK _ _ ?_
    clear hK K
    try simp only [Act.put, List.getElem_toArray, List.getElem_cons_succ, List.getElem_cons_zero, List.setIfInBounds_toArray, List.set_cons_zero, List.set_cons_succ]
    refine wpAny_take (i := 26) (v := ?v26b) rfl (by kernel_rfl) (by kernel_rfl) (by kernel_rfl) (fun _ _ _ h => h) (Or.inl ⟨by rfl, ?y26b⟩) ?r26b
    case y26b => intro w; go_simp; with_reducible rfl
    try simp only [Act.put, List.getElem_toArray, List.getElem_cons_succ, List.getElem_cons_zero, List.setIfInBounds_toArray, List.set_cons_zero, List.set_cons_succ]
    refine wpAny_take (i := 27) (v := ?v27b) rfl (by kernel_rfl) (by kernel_rfl) (by kernel_rfl) (fun _ _ _ h => h) (Or.inl ⟨by rfl, ?y27b⟩) ?r27b
    case y27b => intro w; go_simp; with_reducible rfl
    try rw [hwrap2]
    try simp only [Act.put, List.getElem_toArray, List.getElem_cons_succ, List.getElem_cons_zero, List.setIfInBounds_toArray, List.set_cons_zero, List.set_cons_succ]
    refine wpAny_ready (rs := [21]) (by decide +kernel) (by simp) ?_
    refine AllReady.cons rfl (fun K hK => ?_) AllReady.nil
    go_simp
    refine (HU.out _ ?hqw).mono ?_
    case hqw => exact SlotsAt.below HTY.out (by repeat (first | exact Below.refl _ _ | apply bs_later | apply bs_alloc | apply bs_drew | apply bs_drewN))
    rintro e w1 ⟨a9, c9, rfl, hf, hb1⟩
    obtain ⟨l9, d9, rfl⟩ := later_of hb1
    clear hb1 hf
    refine hK _ _ ?_
    clear hK K
    try simp only [Act.put, List.getElem_toArray, List.getElem_cons_succ, List.getElem_cons_zero, List.setIfInBounds_toArray, List.set_cons_zero, List.set_cons_succ]
    refine wpAny_take (i := 22) (v := ?v22b) rfl (by kernel_rfl) (by kernel_rfl) (by kernel_rfl) (fun _ _ _ h => h) (Or.inl ⟨by rfl, ?y22b⟩) ?r22b
    case y22b => intro w; go_simp; with_reducible rfl
    try simp only [Act.put, List.getElem_toArray, List.getElem_cons_succ, List.getElem_cons_zero, List.setIfInBounds_toArray, List.set_cons_zero, List.set_cons_succ]
    refine wpAny_take (i := 28) (v := ?v28b) rfl (by kernel_rfl) (by kernel_rfl) (by kernel_rfl) (fun _ _ _ h => h) (Or.inl ⟨by rfl, ?y28b⟩) ?r28b
    case y28b => intro w; go_simp; with_reducible rfl
    try rw [hsumI]
    try simp only [Act.put, List.getElem_toArray, List.getElem_cons_succ, List.getElem_cons_zero, List.setIfInBounds_toArray, List.set_cons_zero, List.set_cons_succ]
    refine wpAny_take (i := 29) (v := ?v29b) rfl (by kernel_rfl) (by kernel_rfl) (by kernel_rfl) (fun _ _ _ h => h) (Or.inl ⟨by rfl, ?y29b⟩) ?r29b
    case y29b => intro w; go_simp; with_reducible rfl
    try simp only [Act.put, List.getElem_toArray, List.getElem_cons_succ, List.getElem_cons_zero, List.setIfInBounds_toArray, List.set_cons_zero, List.set_cons_succ]
    refine wpAny_take (i := 30) (v := ?v30b) rfl (by kernel_rfl) (by kernel_rfl) (by kernel_rfl) (fun _ _ _ h => h) (Or.inl ⟨by rfl, ?y30b⟩) ?r30b
    case y30b => intro w; go_simp; with_reducible rfl
    try simp only [Act.put, List.getElem_toArray, List.getElem_cons_succ, List.getElem_cons_zero, List.setIfInBounds_toArray, List.set_cons_zero, List.set_cons_succ]
    refine wpAny_done (by kernel_rfl) ?_ _
    go_wp2
    go_ret
    exact ⟨rfl, (by repeat (first | exact HBY.out | apply bs_later | apply bs_alloc | apply bs_drew | apply bs_drewN))⟩
end Go.Proofs.Ytffhfpdmfegcpaa.ringKeeps
