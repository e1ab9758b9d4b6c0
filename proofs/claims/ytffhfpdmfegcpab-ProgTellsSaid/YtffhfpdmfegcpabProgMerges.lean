/- What is merged is split into the first deeds of each program again: for all arguments. -/
import Derived.Test.YtffhfpdmfegcpabProgSplit
import Derived.Test.YtffhfpdmfegcpabProgMerge
import Derived.Test.YtffhfpdmfegcpabProgGuard
import Derived.Test.YtffhfpdmfegcpabMergePlain
import Derived.Test.YtffhfpdmfegcpabEqDeed
import Derived.Test.YtffhfpdmfegcpabIntRow
namespace Go.Proofs.Ytffhfpdmfegcpab.progMerges
open Go.ChangeShapes Go.WideShapes Go.ChangeAt Go.RowKit
open Go.Proofs.Ytffhfpdmfegcpab.base Go.Proofs.Ytffhfpdmfegcpab.knob Go.Proofs.Ytffhfpdmfegcpab.flat Go.Proofs.Ytffhfpdmfegcpab.table Go.Proofs.Ytffhfpdmfegcpab.addr Go.Proofs.Ytffhfpdmfegcpab.atomic Go.Proofs.Ytffhfpdmfegcpab.told Go.Proofs.Ytffhfpdmfegcpab.prog
set_option linter.unusedVariables false
set_option linter.unusedSimpArgs false

set_option maxHeartbeats 1000000 in
set_option maxRecDepth 100000 in
theorem walk_bad (cn cs cy cb : Int) (ps : List (List D4)) (pa : Option Addr) (pn pc : Nat) (picks : List Int) (qa : Option Addr) (qn qc : Nat) (w : World) (hpn : ps.length = pn) (hpm : pn ≤ maxLen) (hP : ListsAt DeedsAt w pa ps) (hqn : picks.length = qn) (hqm : qn ≤ maxLen) (hQ : IntsAt .i64 w qa picks) (hE : ¬ mergeE cn cs cy cb ps picks = 0) :
    Calls Try.prog 6 #[.agg #[.int .i64 cn, .int .i64 cs, .int .i64 cy, .int .i64 cb], .slice pa pn pc, .slice qa qn qc] w (Ret (.bool true) w) := by
  have HM : Hid (∀ w, ListsAt DeedsAt w pa ps → IntsAt .i64 w qa picks → Calls Try.prog 33 #[.agg #[.int .i64 cn, .int .i64 cs, .int .i64 cy, .int .i64 cb], .slice pa pn pc, .slice qa qn qc] w (Ret (.tuple #[.slice none 0 0, .slice none 0 0, .int .i64 (mergeE cn cs cy cb ps picks)]) w)) := Lib.hid fun w h1 h2 =>
    (merge_any cn cs cy cb ps pa pn pc picks qa qn qc w hpn hpm h1 hqn hqm h2).mono fun e w' ⟨hb, h⟩ => by
      rcases h with ⟨h, _⟩ | ⟨_, h⟩
      · exact absurd h hE
      · exact ⟨h, hb⟩
  have HPP := Lib.hid hP
  have HQQ := Lib.hid hQ
  generalize mergeE cn cs cy cb ps picks = E at *
  have hE1 : (E != 0) = true := by simpa using hE
  clear hP hQ hpn hqn
  go_enter Try.func6, Try.ntmps6
  go_wp2_with (first
    | (go_at_call 32; refine (progs_any _).mono ?_; rintro e w1 ⟨rfl, hb1⟩; obtain ⟨l1, d1, rfl⟩ := later_of hb1; clear hb1)
    | (go_at_call 33; refine (HM.out _ (lists_below HPP.out (by repeat (first | exact Below.refl _ _ | apply bs_later | apply bs_alloc | apply bs_drew | apply bs_drewN))) (IntsAt.below HQQ.out (by repeat (first | exact Below.refl _ _ | apply bs_later | apply bs_alloc | apply bs_drew | apply bs_drewN)))).mono ?_; rintro e w1 ⟨rfl, hb1⟩; obtain ⟨l2, d2, rfl⟩ := later_of hb1; clear hb1))
  go_ret
  exact ⟨rfl, (by repeat (first | exact Below.refl _ _ | apply bs_later | apply bs_alloc | apply bs_drew | apply bs_drewN))⟩

theorem below_trans {W0 w w' : World} (h : Below W0.heap.size W0 w) (hb : Below w.heap.size w w') : Below W0.heap.size W0 w' := by
  obtain ⟨l, d, rfl⟩ := later_of hb
  exact bs_later h l d
def RelP (n : Nat) (W1 : World) (i : Value) (wr : World) : Prop := ∃ (k : Nat) (l : Array Obj) (d : Nat), k ≤ n ∧ i = .int .i64 k ∧ wr = W1.later l d
set_option maxHeartbeats 4000000 in
set_option maxRecDepth 100000 in
theorem walk_ok (cn cs cy cb : Int) (ps : List (List D4)) (hps : ∀ p ∈ ps, ∀ x ∈ p, x.Ok) (pa : Option Addr) (pn pc : Nat) (picks : List Int) (qa : Option Addr) (qn qc : Nat) (w : World) (hpn : ps.length = pn) (hpm : pn ≤ maxLen) (hP : ListsAt DeedsAt w pa ps) (hqn : picks.length = qn) (hqm : qn ≤ maxLen) (hQ : IntsAt .i64 w qa picks) (hE : mergeE cn cs cy cb ps picks = 0) :
    Calls Try.prog 6 #[.agg #[.int .i64 cn, .int .i64 cs, .int .i64 cy, .int .i64 cb], .slice pa pn pc, .slice qa qn qc] w (Ret (.bool true) w) := by
  obtain ⟨hl, hcf, hq, hso, hmi, hse⟩ := merge_plain hE
  rw [hpn] at hl
  subst hl
  have hn8 : pn ≤ 8 := by
    by_cases h : CfgOK (pn : Int) cs cy cb
    · have := h.2.1; omega
    · rw [cfgE_bad h] at hcf; simp at hcf
  have hst : (mergeS ps picks).at_.length = pn := by rw [hso.len, hpn]
  have hol : (mergeS ps picks).out.length ≤ 200 := Nat.le_trans hso.out hq
  generalize hS : mergeS ps picks = s at *
  have HM : Hid (∀ w, ListsAt DeedsAt w pa ps → IntsAt .i64 w qa picks → Calls Try.prog 33 #[.agg #[.int .i64 pn, .int .i64 cs, .int .i64 cy, .int .i64 cb], .slice pa pn pc, .slice qa qn qc] w fun e w' => ∃ ao co aa ca, e = .returned (.tuple #[.slice ao s.out.length co, .slice aa pn ca, .int .i64 0]) ∧ (s.out.length ≤ co ∧ co ≤ maxLen ∧ pn ≤ ca ∧ ca ≤ maxLen) ∧ DeedsAt w' ao s.out ∧ IntsAt .i64 w' aa (natI s.at_) ∧ Below w.heap.size w w') := Lib.hid fun w h1 h2 =>
    (merge_any pn cs cy cb ps pa pn pc picks qa qn qc w hpn hpm h1 hqn hqm h2).mono fun e w' ⟨hb, h⟩ => by
      rcases h with ⟨_, ao, co, aa, ca, h1, h2, h3, h4, h5, h6, h7⟩ | ⟨h, _⟩
      · rw [hS] at h1 h2 h6 h7
        rw [hpn] at h1 h4
        exact ⟨ao, co, aa, ca, h1, ⟨h2, h3, h4, h5⟩, h6, h7, hb⟩
      · exact absurd hE h
  have HSP : Hid (∀ w a c, DeedsAt w a s.out → Calls Try.prog 34 #[.agg #[.int .i64 pn, .int .i64 cs, .int .i64 cy, .int .i64 cb], .slice a s.out.length c] w fun e w' => ∃ ao co, e = .returned (.tuple #[.slice ao pn co, .int .i64 0]) ∧ (pn ≤ co ∧ co ≤ maxLen) ∧ ListsAt DeedsAt w' ao (splitL pn s.out) ∧ Below w.heap.size w w') := Lib.hid fun w a c h1 =>
    (split_any pn cs cy cb s.out a s.out.length c w rfl (by unfold maxLen; omega) h1).mono fun e w' ⟨hb, h⟩ => by
      rcases h with ⟨_, ao, co, h1, h2, h3, h4, h5⟩ | ⟨h, _⟩
      · exact ⟨ao, co, h1, ⟨h2, h3⟩, h5, hb⟩
      · exact absurd hse h
  have HPP := Lib.hid hP
  have HQQ := Lib.hid hQ
  have HPS := Lib.hid hps
  have HPL := Lib.hid hpn
  have HMI := Lib.hid hmi
  have HSO := Lib.hid hso
  have HST := Lib.hid hst
  have hbe : ∀ z : Nat, ((z : Int) != (z : Int)) = false := fun z => by simp
  have hol' : ¬ maxLen < s.out.length := by unfold maxLen; omega
  clear hP hQ hpn hqn hps hmi hso hst hS hE hse hcf hq
  go_enter Try.func6, Try.ntmps6
  go_wp2_with (first
    | (go_at_call 32; refine (progs_any _).mono ?_; rintro e w1 ⟨rfl, hb1⟩; obtain ⟨l1, d1, rfl⟩ := later_of hb1; clear hb1)
    | (go_at_call 33; refine (HM.out _ (lists_below HPP.out (by repeat (first | exact Below.refl _ _ | apply bs_later | apply bs_alloc | apply bs_drew | apply bs_drewN))) (IntsAt.below HQQ.out (by repeat (first | exact Below.refl _ _ | apply bs_later | apply bs_alloc | apply bs_drew | apply bs_drewN)))).mono ?_; rintro e w1 ⟨ao, co, aa, ca, rfl, hcap, hmd, hma, hb1⟩; obtain ⟨l2, d2, rfl⟩ := later_of hb1; clear hb1; have HMD := Lib.hid hmd; have HMA := Lib.hid hma; clear hmd hma)
    | (go_at_call 34; refine (HSP.out _ _ _ (DeedsAt.below HMD.out (by repeat (first | exact Below.refl _ _ | apply bs_later | apply bs_alloc | apply bs_drew | apply bs_drewN)))).mono ?_; rintro e w1 ⟨so, sc, rfl, hcap2, hsl, hb1⟩; obtain ⟨l3, d3, rfl⟩ := later_of hb1; clear hb1; have HSL := Lib.hid hsl; clear hsl))
  have HB1 : Hid (Below w.heap.size w ((((w.alloc (.cells #[.int .i64 (pn : Int), .int .i64 cs, .int .i64 cy, .int .i64 cb] 42)).later l1 d1).later l2 d2).later l3 d3)) := Lib.hid (by repeat (first | exact Below.refl _ _ | apply bs_later | apply bs_alloc | apply bs_drew | apply bs_drewN))
  have HPP1 := Lib.hid (lists_below HPP.out HB1.out)
  have HMA1 := Lib.hid (IntsAt.below HMA.out (bs_later (Below.refl _ _) l3 d3))
  generalize (((w.alloc (.cells #[.int .i64 (pn : Int), .int .i64 cs, .int .i64 cy, .int .i64 cb] 42)).later l1 d1).later l2 d2).later l3 d3 = W1 at *
  clear HMA HMD HPP HQQ HM HSP
  go_loopw [55] (RelP pn W1) (fun i _ => pn - (intOf i).toNat)
  case atStart => exact ⟨0, #[], _, Nat.zero_le _, rfl, later_zero _⟩
  case round =>
    obtain ⟨k, l, d, hk, rfl, rfl⟩ := hrel
    by_cases hlt : k < pn
    · obtain ⟨P, hP⟩ := get_some (xs := ps) (k := k) (by rw [HPL.out]; exact hlt)
      obtain ⟨t, ht⟩ := get_some (xs := s.at_) (k := k) (by rw [HST.out]; exact hlt)
      have hnode := HMI.out.node k P t hP ht
      have hle := HSO.out.le k P t hP ht
      have hle' : ¬ (P.length : Int) < t := by omega
      have hle2 : (t : Int) ≤ P.length := by omega
      have hlen : (nodeL k s.out).length = t := by rw [hnode, List.length_take]; omega
      obtain ⟨bp, offp, rfl⟩ := ListsAt.form HPP1.out hP
      obtain ⟨qa, qc, hcell, hq1, hq2, hq3, hq4⟩ := ListsAt.at HPP1.out hP
      have hsg := splitL_get hlt s.out
      obtain ⟨bs, offs, rfl⟩ := ListsAt.form HSL.out hsg
      obtain ⟨sa, sqc, scell, sq1, sq2, sq3, sq4⟩ := ListsAt.at HSL.out hsg
      obtain ⟨ba, offa, rfl, acell⟩ : ∃ ba offa, aa = some ⟨ba, offa, none⟩ ∧ W1.cell? ⟨ba, offa + k, none⟩ = some (.int .i64 (t : Int)) := by
        rcases HMA1.out with h | ⟨b, off, h1, h2⟩
        · have := natI_get ht; rw [h] at this; cases this
        · exact ⟨b, off, h1, h2 k _ (natI_get ht)⟩
      rw [hlen] at scell
      have hin1 : inB W1 bp := lt_of_cell hcell
      have hin2 : inB W1 bs := lt_of_cell scell
      have hin3 : inB W1 ba := lt_of_cell acell
      have hok := HPS.out P (List.mem_of_getElem? hP)
      have HOK := Lib.hid hok
      have HND := Lib.hid hnode
      have HLN := Lib.hid hlen
      have HQ4 := Lib.hid hq4
      have HSQ := Lib.hid sq4
      have htl : (P.take t).length = t := by rw [List.length_take]; omega
      have HTL := Lib.hid htl
      have htm : t ≤ maxLen := by omega
      have hpos : ¬ ((t : Int) < 0) := by omega
      unfold maxLen at hq2
      have hct : (t : Int) ≤ qc := by omega
      clear hP ht hnode hlen hsg sq1 sq2 sq3 hq3 hq4 sq4 hok htl hk
      go_wp2
      have hEQ := eqDeed.eqL_yes HND.out
      go_quiet ((go_at_call 35; refine (eqDeed.equal_n _ _ _ _ t _ (nodeL k s.out) (P.take t) HLN.out HTL.out htm ?g1 ?g2 ?g3 ?g4).mono ?_; (case g1 => rw [HND.out]; exact fun y hy => HOK.out y (List.mem_of_mem_take hy)); (case g2 => exact fun y hy => HOK.out y (List.mem_of_mem_take hy)); (case g3 => exact DeedsAt.below HSQ.out (by repeat (first | exact Below.refl _ _ | apply bs_later | apply bs_alloc | apply bs_drew | apply bs_drewN))); (case g4 => exact deeds_take (DeedsAt.below HQ4.out (by repeat (first | exact Below.refl _ _ | apply bs_later | apply bs_alloc | apply bs_drew | apply bs_drewN))) t); rintro e w1 ⟨rfl, nd, rfl⟩; exact ⟨rfl, _, by rw [later_drewN, Nat.add_assoc]⟩))
      all_goals go_wp2
      all_goals exact ⟨⟨k + 1, _, _, hlt, by go_num, rfl⟩, by simp [intOf]; omega⟩
    · obtain rfl : k = pn := by omega
      go_wp2
      go_ret
      exact ⟨rfl, below_trans HB1.out (by repeat (first | exact Below.refl _ _ | apply bs_later | apply bs_alloc | apply bs_drew | apply bs_drewN))⟩

theorem walk {H : Type} {enc : TypeId × Value → H} {dd1 dd2 : DataW H} {pp1 pp2 : List MemPlace} (cn cs cy cb : Int) (pa : Option Addr) (pn pc : Nat) (qa : Option Addr) (qn qc : Nat) (w : World)
    (wn : (Lit.int .i64 cn).wf = true) (ws : (Lit.int .i64 cs).wf = true) (wy : (Lit.int .i64 cy).wf = true) (wb : (Lit.int .i64 cb).wf = true)
    (k1 : DataW.Trod enc Try.prog w 0 (fun _ => true) true 71 (.slice pa pn pc) dd1 pp1) (k2 : DataW.Trod enc Try.prog w 0 (fun _ => true) true 35 (.slice qa qn qc) dd2 pp2) :
    Calls Try.prog 6 #[.agg #[.int .i64 cn, .int .i64 cs, .int .i64 cy, .int .i64 cb], .slice pa pn pc, .slice qa qn qc] w (Ret (.bool true) w) := by
  obtain ⟨p1, p2, _, ps, hpn, hP, hps⟩ := open_lists (Q := DeedsAt) (good := D4.Ok) Try.underlying71 Try.underlying60 (by kernel_rfl) (fun a len cap d ps h => open_deeds (m := 4) Try.underlying60 (by kernel_rfl) (by kernel_rfl) h) k1
  obtain ⟨h1, h2, _, picks, hqn, hQ, _⟩ := open_introw (m := 1) (k := .i64) Try.underlying35 (by kernel_rfl) (by kernel_rfl) k2
  by_cases h0 : mergeE cn cs cy cb ps picks = 0
  · exact walk_ok cn cs cy cb ps hps pa pn pc picks qa qn qc w hpn (Nat.le_trans p1 p2) hP hqn (Nat.le_trans h1 h2) hQ h0
  · exact walk_bad cn cs cy cb ps pa pn pc picks qa qn qc w hpn (Nat.le_trans p1 p2) hP hqn (Nat.le_trans h1 h2) hQ h0

-- the frame, by program
set_option maxRecDepth 100000 in
theorem lifted (os : Os) (started : os.Started) (H : Type) (enc : TypeId × Value → H) :
    ReturnsInHanded {} Try.checked os 6 .any (Rows.progMergesSpec.pre6 enc Try.prog Try.f6 Rows.progMergesRow.domain false) (Rows.progMergesSpec.post enc Try.prog Try.f6 false true false false) := by
  refine returnsInHanded_of_change (C := Try.checked) own started (by kernel_rfl) Try.func6
    (ChangeSpec.witness6 (enc := enc) (C := Try.checked) false ⟨#[], #[.agg #[.int .i64 0, .int .i64 0, .int .i64 0, .int .i64 0], .slice none 0 0, .slice none 0 0], []⟩ 8 (by kernel_rfl) (by kernel_rfl) (by kernel_rfl) (by kernel_rfl)) ?_
  intro W base args ds gs before hval0 hW hcnd _
  have hval : ∀ (j : Nat) t v, Try.f6.params[j]? = some t → args[j]? = some v → Value.okWide Try.prog W .any base t v := hval0
  have hW' := hW
  obtain ⟨p, q, hA0, hV, rfl, hfz, hnd⟩ := hW
  have hA : DataW.TrodAll enc Try.prog W 0 (fun _ => true) true Try.f6.params.toList args.toList ds p := hA0
  rw [Try.params6] at hA hval
  obtain ⟨v0, vs0, d0, ds0, p0, q0, hargs, rfl, rfl, h0, r0⟩ := trodAll_cons hA
  obtain ⟨v1, vs1, d1, ds1, p1, q1, rfl, rfl, rfl, h1, r1⟩ := trodAll_cons r0
  obtain ⟨v2, vs2, d2, ds2, p2, q2, rfl, rfl, rfl, h2, r2⟩ := trodAll_cons r1
  obtain ⟨rfl, rfl, rfl⟩ := trodAll_nil r2
  obtain rfl : args = #[v0, v1, v2] := by cases args; simp_all
  obtain ⟨rfl, rfl⟩ := trodVars_none hV
  have k0 := h0
  have lt0 : ∀ x ∈ p0, x.block < W.heap.size := by obtain ⟨m, hm⟩ := k0; exact DataW.trod_lt m _ _ _ hm
  have k1 := h1
  have lt1 : ∀ x ∈ p1, x.block < W.heap.size := by obtain ⟨m, hm⟩ := k1; exact DataW.trod_lt m _ _ _ hm
  have k2 := h2
  have lt2 : ∀ x ∈ p2, x.block < W.heap.size := by obtain ⟨m, hm⟩ := k2; exact DataW.trod_lt m _ _ _ hm
  obtain ⟨cs0, rfl, al0⟩ := open_flat (n := 4) [.int .i64, .int .i64, .int .i64, .int .i64] (by kernel_rfl) (by kernel_rfl) (.inl ⟨_, Try.underlying42⟩) (hval 0 42 v0 rfl rfl) h0
  obtain ⟨a0x, a0y, a0z, a0u, rfl, w0x, w0y, w0z, w0u⟩ := all2_cfg al0
  obtain ⟨a1, len1, cap1, rfl⟩ := okWide_slice Try.underlying71 (hval 1 71 v1 rfl rfl)
  obtain ⟨a2, len2, cap2, rfl⟩ := okWide_slice Try.underlying35 (hval 2 35 v2 rfl rfl)
  clear hA0 hval0
  refine (walk a0x a0y a0z a0u a1 len1 cap1 a2 len2 cap2 W w0x w0y w0z w0u k1 k2).mono fun e W' ⟨he, bel⟩ => ?_
  subst he
  exact ⟨_, rfl, _, _, _, [], _, [], hW', trodAll_mk1 (shut_bool Try.underlying4 _), (trodAll_cons_mk (Below.trod laidOut (by kernel_rfl) (of_decide_eq_true (by kernel_rfl)) k0 bel lt0) (trodAll_cons_mk (Below.trod laidOut (by kernel_rfl) (of_decide_eq_true (by kernel_rfl)) k1 bel lt1) (trodAll_cons_mk (Below.trod laidOut (by kernel_rfl) (of_decide_eq_true (by kernel_rfl)) k2 bel lt2) trodAll_mk0))), rfl, bel.frame _, fun h => by cases h⟩

theorem over : Rows.progMergesRow.holds Try.pinned (OpenSpec.ofChange Rows.progMergesSpec) :=
  OpenClaim.holds_of_wide 6 Try.f6 rfl rfl rfl rfl rfl rfl rfl ⟨rfl, rfl, rfl, rfl, rfl⟩ rfl rfl rfl rfl rfl (by kernel_rfl) Try.func6 (by kernel_rfl)
    (of_decide_eq_true (by kernel_rfl)) (by unfold Func.isWrapper; first | (rw [if_pos (by decide +kernel)]; kernel_rfl) | (rw [if_neg (by decide +kernel)]; exact ⟨rfl, rfl⟩))
    (fun os started H enc _ => lifted os started H enc)

theorem proved : Rows.ProgMergesSaid := over

end Go.Proofs.Ytffhfpdmfegcpab.progMerges
