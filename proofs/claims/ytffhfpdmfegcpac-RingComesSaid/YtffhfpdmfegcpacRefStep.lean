/- The contracts of ring.Step, whole, and of ringdoveref.RingStep. -/
import Derived.Test.YtffhfpdmfegcpacRingStep
namespace Go.Proofs.Ytffhfpdmfegcpac.slot
open Go.ChangeShapes Go.WideShapes Go.ChangeAt Go.RowKit
open Go.Proofs.Ytffhfpdmfegcpac.base Go.Proofs.Ytffhfpdmfegcpac.flat Go.Proofs.Ytffhfpdmfegcpac.table Go.Proofs.Ytffhfpdmfegcpac.addr
set_option linter.unusedVariables false
set_option linter.unusedSimpArgs false

set_option maxHeartbeats 1000000 in
set_option maxRecDepth 100000 in
theorem step_any (cn cs cy cb : Int) (ss : List S4) (a : Option Addr) (n c : Nat) (w : World) (hnc : n ≤ c) (hcm : c ≤ maxLen) (hd : ss.length = n) (h : SlotsAt w a ss) :
    Calls Try.prog 26 #[.agg #[.int .i64 cn, .int .i64 cs, .int .i64 cy, .int .i64 cb], .slice a n c] w (StepPost cn cs cy cb ss w) := by
  by_cases hr : ringE cn cs cy cb ss = 0
  · obtain ⟨x, hx⟩ := get_some (xs := ss) (k := 0) (by have := (ringE_len hr).1; omega)
    obtain ⟨b, off, rfl⟩ := SlotsAt.form h hx
    exact step_ok cn cs cy cb ss b off n c w hnc hcm hd h hr
  · have HP := Lib.hid fun w h => ringCheck_any cn cs cy cb ss a n c w hnc hcm hd h
    have HT := Lib.hid h
    have HN := Lib.hid hr
    have hr' : (ringE cn cs cy cb ss != 0) = true := by simpa using hr
    clear h hd hr
    go_enter Try.func26, Try.ntmps26
    go_wp2_with (go_at_call 31; refine (HP.out _ (SlotsAt.below HT.out (by repeat (first | exact Below.refl _ _ | apply bs_later | apply bs_alloc | apply bs_drew | apply bs_drewN)))).mono ?_; rintro e w1 ⟨rfl, hb1⟩; obtain ⟨l1, d1, rfl⟩ := later_of hb1; clear hb1)
    go_ret3
    exact ⟨(by repeat (first | exact Below.refl _ _ | apply bs_later | apply bs_alloc | apply bs_drew | apply bs_drewN)), .inr ⟨HN.out, rfl⟩⟩

/-- which nodes are told, as an array -/
def boolA (l : List Int) : Array Value := ((List.range 8).map fun k : Nat => Value.bool (decide ((k : Int) ∈ l))).toArray
theorem boolA_size (l : List Int) : (boolA l).size = 8 := by simp [boolA]
theorem boolA_at (l : List Int) {k : Nat} (h : k < 8) : (boolA l)[k]? = some (.bool (decide ((k : Int) ∈ l))) := by simp [boolA, h]
theorem boolA_set (l : List Int) {k : Nat} (h : k < 8) : (boolA l).setIfInBounds k (.bool true) = boolA (l ++ [(k : Int)]) := by
  apply Array.ext_getElem?
  intro j
  rw [Array.getElem?_setIfInBounds]
  by_cases hj : j < 8
  · rw [boolA_at _ hj, boolA_at _ hj]
    by_cases he : k = j
    · subst he
      rw [if_pos rfl, if_pos (by rw [boolA_size]; exact h)]
      simp
    · rw [if_neg he]
      congr 2
      apply decide_eq_decide.2
      simp only [List.mem_append, List.mem_singleton]
      constructor
      · exact .inl
      · rintro (h | h)
        · exact h
        · omega
  · rw [Array.getElem?_eq_none (by rw [boolA_size]; omega), Array.getElem?_eq_none (by rw [boolA_size]; omega)]
    split
    · omega
    · rfl
/-- those below k -/
def ascK (l : List Int) (k : Nat) : List Int := ((List.range k).filter fun k : Nat => decide ((k : Int) ∈ l)).map fun k : Nat => (k : Int)
theorem ascK_succ (l : List Int) (k : Nat) : ascK l (k + 1) = ascK l k ++ if (k : Int) ∈ l then [(k : Int)] else [] := by
  unfold ascK
  rw [List.range_succ, List.filter_append, List.map_append]
  congr 1
  by_cases h : (k : Int) ∈ l <;> simp [h]
theorem run_told (cs : Array Value) (i : Nat) (v : Value) (hi : i < 8) (hv : cs[i]? = some v) (w : World) :
    (Instr.index 146 (.agg cs) (.int .i64 i)).run Try.prog w = .ok v w := by
  have hi2 : (i : Int) < 8 := by omega
  have h0 : (0 : Int) ≤ i := by omega
  simp [Instr.index, run_underlying Try.underlying146, asIntOf, hi, hi2, h0, hv, go_sem]
theorem one_cellX (a c d : Int) (b : Bool) : ∀ u ∈ [Value.int .i64 a, Value.bool b, Value.int .i64 c, Value.int .i64 d], u.oneCell' = true := by
  intro u hu
  simp only [List.mem_cons, List.not_mem_nil, or_false] at hu
  rcases hu with rfl | rfl | rfl | rfl <;> rfl
theorem ascK_le (l : List Int) (k : Nat) : (ascK l k).length ≤ k := by
  unfold ascK
  rw [List.length_map]
  exact Nat.le_trans (List.length_filter_le _ _) (by simp)
/-- what RingStep answers -/
def RefStepPost (cn : Int) (ss : List S4) (w : World) (e : Ending) (w' : World) : Prop :=
  Below w.heap.size w w' ∧ ∃ a c a2 c2, e = .returned (.tuple #[.slice a ss.length c, .slice a2 (ascL (toldL cn ss)).length c2]) ∧ ss.length ≤ c ∧ c ≤ maxLen ∧ (ascL (toldL cn ss)).length ≤ c2 ∧ c2 ≤ maxLen ∧ SlotsAt w' a (stepL cn ss) ∧ IntsAt .i64 w' a2 (ascL (toldL cn ss))
def RelRS (cn : Int) (ss : List S4) (base : Nat) (w0 : World) (t : TypeId) (v i : Value) (wr : World) : Prop :=
  ∃ (k : Nat) (l : Array Obj) (d : Nat), k ≤ ss.length ∧ i = .int .i64 k ∧ wr = (w0.alloc (.cells (boolA (toldL cn (ss.take k))) t)).later l d
    ∧ ((w0.alloc (.cells (boolA (toldL cn (ss.take k))) t)).later l d).ownsRow base 85 4 v k (cellsS (stepL cn (ss.take k)))
def RelTL (T : List Int) (w0 : World) (v i : Value) (wr : World) : Prop :=
  ∃ (k : Nat) (l : Array Obj) (d : Nat), k ≤ 8 ∧ i = .int .i64 k ∧ wr = w0.later l d ∧ (w0.later l d).ownsRow w0.heap.size 3 1 v (ascK T k).length ((ascK T k).map (Value.int .i64))

set_option maxHeartbeats 4000000 in
set_option maxRecDepth 100000 in
theorem refStep_ok (cn cs cy cb : Int) (ss : List S4) (b off : Nat) (n c : Nat) (w : World) (hnc : n ≤ c) (hcm : c ≤ maxLen) (hd : ss.length = n) (h : SlotsAt w (some ⟨b, off, none⟩) ss) (h0 : ringE cn cs cy cb ss = 0) :
    Calls Try.prog 32 #[.agg #[.int .i64 cn, .int .i64 cs, .int .i64 cy, .int .i64 cb], .slice (some ⟨b, off, none⟩) n c] w (RefStepPost cn ss w) := by
  have hlen := ringE_len h0
  have hok := ringOK_iff.1 hlen.2.2.2
  have hcfg := hlen.2.2.1
  have hcn : 2 ≤ cn ∧ cn ≤ 8 := ⟨hcfg.1, hcfg.2.1⟩
  have hn1 : 1 ≤ n := by omega
  have hn8 : n ≤ 8 := by omega
  have HT := Lib.hid h
  have HD := Lib.hid hd
  have HOK := Lib.hid hok
  obtain ⟨x0, hx0⟩ := get_some (xs := ss) (k := 0) (by omega)
  have hin : inB w b := lt_of_cell (SlotsAt.at h hx0).1
  unfold maxLen at hcm
  clear h h0 hd hlen hok hcfg hx0
  obtain ⟨i0, hi, hz0, hz1, hz2⟩ := info_parts info_intS
  obtain ⟨i4, ji, jz0, jz1, jz2⟩ := info_parts info_slot
  go_enter Try.func32, Try.ntmps32
  go_wp2
  go_loopw [6, 15] (RelRS cn ss (w.heap.size + 2) (w.alloc (.cells #[.int .i64 cn, .int .i64 cs, .int .i64 cy, .int .i64 cb] 54)) 146) (fun _ i _ => n - (intOf i).toNat)
  case atStart => exact ⟨0, #[], _, by omega, rfl, later_zero _, World.ownsRow_nil _ _ _ _⟩
  case round =>
    obtain ⟨k, l, d, hk, rfl, rfl, hown⟩ := hrel
    have HO := Lib.hid (own_any hown)
    have hbs := boolA_size (toldL cn (ss.take k))
    by_cases hlt : k < n
    · obtain ⟨x, hx⟩ := get_some (xs := ss) (k := k) (by rw [HD.out]; exact hlt)
      have hxin := HOK.out.inn x (List.mem_of_getElem? hx)
      obtain ⟨c0, c1, c2', c3⟩ := SlotsAt.at HT.out hx
      have HX := Lib.hid hx
      have HTS := Lib.hid (toldL_snoc (cn := cn) hx)
      have HSS := Lib.hid (stepL_snoc (cn := cn) hx)
      clear hx hown
      obtain ⟨xa, xf, xb, xw⟩ := x
      simp only at c0 c1 c2' c3
      obtain ⟨hi1, hi2, hi3⟩ := hxin
      simp only at hi1 hi2 hi3
      have hJ : k + 1 ≤ ss.length := by rw [HD.out]; exact hlt
      by_cases hw : 0 < xw
      · have hst : (⟨xa, xf, xb, xw⟩ : S4).step cn = ⟨xa, xf, xb, xw - 1⟩ := if_pos hw
        have htl : (⟨xa, xf, xb, xw⟩ : S4).tells cn = false := by unfold S4.tells; rw [decide_eq_false (by show ¬ xw ≤ 0; omega)]; rfl
        rw [htl] at HTS
        simp only [Bool.false_eq_true, if_false, List.append_nil] at HTS
        rw [hst] at HSS
        clear hst htl
        go_wp2_with (at_builtin; refine wpList_append_own _ rfl _ _ 74 rfl (w.heap.size + 2) 85 i4 _ 4 32 Try.underlying74 ji jz0 jz1 jz2 rfl (by decide) _ _ _ rfl (((HO.out _).alloc _).alloc _) ⟨_, 0, none⟩ 1 1 [.int .i64 xa, .bool xf, .int .i64 xb, .int .i64 (xw - 1)] rfl rfl ?d1z1 ?d2z1 ?d3z1 ?d4z1 ?d5z1 ?_)
        try (case d1z1 => exact four_newS (by simp))
        case d2z1 => first | exact one_cellX _ _ _ _ | exact ⟨rfl, rfl, rfl⟩ | (simp [Value.oneCell']; done)
        case d3z1 => unfold maxLen; omega
        case d4z1 => omega
        case d5z1 => first | omega | (simp; omega)
        intro v' w1 hown2 hgrow hnil
        have hb5 := below_grown (W0 := (w.alloc (.cells #[.int .i64 cn, .int .i64 cs, .int .i64 cy, .int .i64 cb] 54)).alloc (.cells (boolA (toldL cn (ss.take k))) 146)) (by repeat (first | exact Below.refl _ _ | apply bs_later | apply bs_alloc | apply bs_drew | apply bs_drewN)) hgrow (fun g' hg' => by have := ((HO.out 0).lt g' hg').1; simp; omega)
        obtain ⟨l5, d5, rfl⟩ := later_of hb5
        have HN := Lib.hid (own_any hown2)
        clear hown2 hgrow hnil hb5
        go_wp2
        exact ⟨⟨k + 1, _, _, hJ, by go_num, by rw [HTS.out], by rw [HTS.out, HSS.out, cellsS_snoc]; exact HN.out _⟩, by simp [intOf]; omega⟩
      · obtain rfl : xw = 0 := by omega
        have hstep : (⟨xa, xf, xb, 0⟩ : S4).step cn = if xf = true ∧ xb = stepAt cn xa then ⟨stepAt cn xa, false, 0, 0⟩ else ⟨stepAt cn xa, xf, xb, 0⟩ := if_neg hw
        have htell : (⟨xa, xf, xb, 0⟩ : S4).tells cn = (xf && decide (xb = stepAt cn xa)) := Bool.true_and _
        obtain ⟨N, hA, hN, hcase⟩ : ∃ N : Nat, stepAt cn xa = N ∧ N < 8 ∧ (((xa + 1 == cn) = true ∧ N = 0) ∨ ((xa + 1 == cn) = false ∧ xa + 1 = (N : Int))) := by
          by_cases he : xa + 1 = cn
          · exact ⟨0, if_pos he, by omega, .inl ⟨by simpa using he, rfl⟩⟩
          · exact ⟨(xa + 1).toNat, by rw [show stepAt cn xa = xa + 1 from if_neg he]; omega, by omega, .inr ⟨by simpa using he, by omega⟩⟩
        rw [hA] at hstep htell
        by_cases hfb : xf = true ∧ xb = (N : Int)
        · obtain ⟨rfl, rfl⟩ := hfb
          rw [if_pos ⟨rfl, rfl⟩] at hstep
          rw [htell, decide_eq_true rfl] at HTS
          simp only [Bool.and_self, if_true] at HTS
          rw [hstep] at HSS
          have HBS := Lib.hid (boolA_set (toldL cn (ss.take k)) hN)
          have hbat := boolA_at (toldL cn (ss.take k)) hN
          clear hstep htell hA
          rcases hcase with ⟨he', rfl⟩ | ⟨he', hN2⟩
          · have he2 : ((0 : Int) == 0) = true := rfl
            simp only [Int.natCast_zero] at *
            go_wp2_with (at_builtin; refine wpList_append_own _ rfl _ _ 74 rfl (w.heap.size + 2) 85 i4 _ 4 32 Try.underlying74 ji jz0 jz1 jz2 rfl (by decide) _ _ _ rfl (((own_swap (HO.out 0) (by simp) (by simp)).alloc _).alloc _) ⟨_, 0, none⟩ 1 1 [.int .i64 0, .bool false, .int .i64 0, .int .i64 0] rfl rfl ?d1z2 ?d2z2 ?d3z2 ?d4z2 ?d5z2 ?_)
            try (case d1z2 => exact four_newS (by simp))
            case d2z2 => first | exact one_cellX _ _ _ _ | exact ⟨rfl, rfl, rfl⟩ | (simp [Value.oneCell']; done)
            case d3z2 => unfold maxLen; omega
            case d4z2 => omega
            case d5z2 => first | omega | (simp; omega)
            intro v' w1 hown2 hgrow hnil
            have hb5 := below_grown (W0 := (w.alloc (.cells #[.int .i64 cn, .int .i64 cs, .int .i64 cy, .int .i64 cb] 54)).alloc (.cells ((boolA (toldL cn (ss.take k))).setIfInBounds 0 (.bool true)) 146)) (by repeat (first | exact Below.refl _ _ | apply bs_later | apply bs_alloc | apply bs_drew | apply bs_drewN)) hgrow (fun g' hg' => by have := ((HO.out 0).lt g' hg').1; simp; omega)
            obtain ⟨l5, d5, rfl⟩ := later_of hb5
            have HN := Lib.hid (own_any hown2)
            clear hown2 hgrow hnil hb5
            go_wp2
            exact ⟨⟨k + 1, _, _, hJ, by go_num, by rw [HTS.out, ← HBS.out], by rw [HTS.out, ← HBS.out, HSS.out, cellsS_snoc]; exact HN.out _⟩, by simp [intOf]; omega⟩
          · go_wp2_with (at_builtin; refine wpList_append_own _ rfl _ _ 74 rfl (w.heap.size + 2) 85 i4 _ 4 32 Try.underlying74 ji jz0 jz1 jz2 rfl (by decide) _ _ _ rfl (((own_swap (HO.out 0) (by simp) (by simp)).alloc _).alloc _) ⟨_, 0, none⟩ 1 1 [.int .i64 (N : Int), .bool false, .int .i64 0, .int .i64 0] rfl rfl ?d1z3 ?d2z3 ?d3z3 ?d4z3 ?d5z3 ?_)
            try (case d1z3 => exact four_newS (by simp))
            case d2z3 => first | exact one_cellX _ _ _ _ | exact ⟨rfl, rfl, rfl⟩ | (simp [Value.oneCell']; done)
            case d3z3 => unfold maxLen; omega
            case d4z3 => omega
            case d5z3 => first | omega | (simp; omega)
            intro v' w1 hown2 hgrow hnil
            have hb5 := below_grown (W0 := (w.alloc (.cells #[.int .i64 cn, .int .i64 cs, .int .i64 cy, .int .i64 cb] 54)).alloc (.cells ((boolA (toldL cn (ss.take k))).setIfInBounds N (.bool true)) 146)) (by repeat (first | exact Below.refl _ _ | apply bs_later | apply bs_alloc | apply bs_drew | apply bs_drewN)) hgrow (fun g' hg' => by have := ((HO.out 0).lt g' hg').1; simp; omega)
            obtain ⟨l5, d5, rfl⟩ := later_of hb5
            have HN := Lib.hid (own_any hown2)
            clear hown2 hgrow hnil hb5
            go_wp2
            exact ⟨⟨k + 1, _, _, hJ, by go_num, by rw [HTS.out, ← HBS.out], by rw [HTS.out, ← HBS.out, HSS.out, cellsS_snoc]; exact HN.out _⟩, by simp [intOf]; omega⟩
        · rw [if_neg hfb] at hstep
          have htell2 : (⟨xa, xf, xb, 0⟩ : S4).tells cn = false := by
            rw [htell]
            cases xf with
            | false => rfl
            | true => rw [decide_eq_false (fun h => hfb ⟨rfl, h⟩)]; rfl
          rw [htell2] at HTS
          simp only [Bool.false_eq_true, if_false, List.append_nil] at HTS
          rw [hstep] at HSS
          have hfb' : xf = false ∨ (xf = true ∧ (xb == (N : Int)) = false) := by
            cases xf with
            | false => exact .inl rfl
            | true => refine .inr ⟨rfl, ?_⟩; simp only [true_and] at hfb; simpa using hfb
          clear hstep htell htell2 hfb hA
          rcases hcase with ⟨he', rfl⟩ | ⟨he', hN2⟩
          · rcases hfb' with rfl | ⟨rfl, hne⟩
            · simp only [Int.natCast_zero] at *
              go_wp2_with (at_builtin; refine wpList_append_own _ rfl _ _ 74 rfl (w.heap.size + 2) 85 i4 _ 4 32 Try.underlying74 ji jz0 jz1 jz2 rfl (by decide) _ _ _ rfl (((HO.out _).alloc _).alloc _) ⟨_, 0, none⟩ 1 1 [.int .i64 0, .bool false, .int .i64 xb, .int .i64 0] rfl rfl ?d1z4 ?d2z4 ?d3z4 ?d4z4 ?d5z4 ?_)
              try (case d1z4 => exact four_newS (by simp))
              case d2z4 => first | exact one_cellX _ _ _ _ | exact ⟨rfl, rfl, rfl⟩ | (simp [Value.oneCell']; done)
              case d3z4 => unfold maxLen; omega
              case d4z4 => omega
              case d5z4 => first | omega | (simp; omega)
              intro v' w1 hown2 hgrow hnil
              have hb5 := below_grown (W0 := (w.alloc (.cells #[.int .i64 cn, .int .i64 cs, .int .i64 cy, .int .i64 cb] 54)).alloc (.cells (boolA (toldL cn (ss.take k))) 146)) (by repeat (first | exact Below.refl _ _ | apply bs_later | apply bs_alloc | apply bs_drew | apply bs_drewN)) hgrow (fun g' hg' => by have := ((HO.out 0).lt g' hg').1; simp; omega)
              obtain ⟨l5, d5, rfl⟩ := later_of hb5
              have HN := Lib.hid (own_any hown2)
              clear hown2 hgrow hnil hb5
              go_wp2
              exact ⟨⟨k + 1, _, _, hJ, by go_num, by rw [HTS.out], by rw [HTS.out, HSS.out, cellsS_snoc]; exact HN.out _⟩, by simp [intOf]; omega⟩
            · simp only [Int.natCast_zero] at *
              go_wp2_with (at_builtin; refine wpList_append_own _ rfl _ _ 74 rfl (w.heap.size + 2) 85 i4 _ 4 32 Try.underlying74 ji jz0 jz1 jz2 rfl (by decide) _ _ _ rfl (((HO.out _).alloc _).alloc _) ⟨_, 0, none⟩ 1 1 [.int .i64 0, .bool true, .int .i64 xb, .int .i64 0] rfl rfl ?d1z5 ?d2z5 ?d3z5 ?d4z5 ?d5z5 ?_)
              try (case d1z5 => exact four_newS (by simp))
              case d2z5 => first | exact one_cellX _ _ _ _ | exact ⟨rfl, rfl, rfl⟩ | (simp [Value.oneCell']; done)
              case d3z5 => unfold maxLen; omega
              case d4z5 => omega
              case d5z5 => first | omega | (simp; omega)
              intro v' w1 hown2 hgrow hnil
              have hb5 := below_grown (W0 := (w.alloc (.cells #[.int .i64 cn, .int .i64 cs, .int .i64 cy, .int .i64 cb] 54)).alloc (.cells (boolA (toldL cn (ss.take k))) 146)) (by repeat (first | exact Below.refl _ _ | apply bs_later | apply bs_alloc | apply bs_drew | apply bs_drewN)) hgrow (fun g' hg' => by have := ((HO.out 0).lt g' hg').1; simp; omega)
              obtain ⟨l5, d5, rfl⟩ := later_of hb5
              have HN := Lib.hid (own_any hown2)
              clear hown2 hgrow hnil hb5
              go_wp2
              exact ⟨⟨k + 1, _, _, hJ, by go_num, by rw [HTS.out], by rw [HTS.out, HSS.out, cellsS_snoc]; exact HN.out _⟩, by simp [intOf]; omega⟩
          · rcases hfb' with rfl | ⟨rfl, hne⟩
            · go_wp2_with (at_builtin; refine wpList_append_own _ rfl _ _ 74 rfl (w.heap.size + 2) 85 i4 _ 4 32 Try.underlying74 ji jz0 jz1 jz2 rfl (by decide) _ _ _ rfl (((HO.out _).alloc _).alloc _) ⟨_, 0, none⟩ 1 1 [.int .i64 (N : Int), .bool false, .int .i64 xb, .int .i64 0] rfl rfl ?d1z6 ?d2z6 ?d3z6 ?d4z6 ?d5z6 ?_)
              try (case d1z6 => exact four_newS (by simp))
              case d2z6 => first | exact one_cellX _ _ _ _ | exact ⟨rfl, rfl, rfl⟩ | (simp [Value.oneCell']; done)
              case d3z6 => unfold maxLen; omega
              case d4z6 => omega
              case d5z6 => first | omega | (simp; omega)
              intro v' w1 hown2 hgrow hnil
              have hb5 := below_grown (W0 := (w.alloc (.cells #[.int .i64 cn, .int .i64 cs, .int .i64 cy, .int .i64 cb] 54)).alloc (.cells (boolA (toldL cn (ss.take k))) 146)) (by repeat (first | exact Below.refl _ _ | apply bs_later | apply bs_alloc | apply bs_drew | apply bs_drewN)) hgrow (fun g' hg' => by have := ((HO.out 0).lt g' hg').1; simp; omega)
              obtain ⟨l5, d5, rfl⟩ := later_of hb5
              have HN := Lib.hid (own_any hown2)
              clear hown2 hgrow hnil hb5
              go_wp2
              exact ⟨⟨k + 1, _, _, hJ, by go_num, by rw [HTS.out], by rw [HTS.out, HSS.out, cellsS_snoc]; exact HN.out _⟩, by simp [intOf]; omega⟩
            · go_wp2_with (at_builtin; refine wpList_append_own _ rfl _ _ 74 rfl (w.heap.size + 2) 85 i4 _ 4 32 Try.underlying74 ji jz0 jz1 jz2 rfl (by decide) _ _ _ rfl (((HO.out _).alloc _).alloc _) ⟨_, 0, none⟩ 1 1 [.int .i64 (N : Int), .bool true, .int .i64 xb, .int .i64 0] rfl rfl ?d1z7 ?d2z7 ?d3z7 ?d4z7 ?d5z7 ?_)
              try (case d1z7 => exact four_newS (by simp))
              case d2z7 => first | exact one_cellX _ _ _ _ | exact ⟨rfl, rfl, rfl⟩ | (simp [Value.oneCell']; done)
              case d3z7 => unfold maxLen; omega
              case d4z7 => omega
              case d5z7 => first | omega | (simp; omega)
              intro v' w1 hown2 hgrow hnil
              have hb5 := below_grown (W0 := (w.alloc (.cells #[.int .i64 cn, .int .i64 cs, .int .i64 cy, .int .i64 cb] 54)).alloc (.cells (boolA (toldL cn (ss.take k))) 146)) (by repeat (first | exact Below.refl _ _ | apply bs_later | apply bs_alloc | apply bs_drew | apply bs_drewN)) hgrow (fun g' hg' => by have := ((HO.out 0).lt g' hg').1; simp; omega)
              obtain ⟨l5, d5, rfl⟩ := later_of hb5
              have HN := Lib.hid (own_any hown2)
              clear hown2 hgrow hnil hb5
              go_wp2
              exact ⟨⟨k + 1, _, _, hJ, by go_num, by rw [HTS.out], by rw [HTS.out, HSS.out, cellsS_snoc]; exact HN.out _⟩, by simp [intOf]; omega⟩
    · obtain rfl : k = n := by have := HD.out; omega
      go_wp2_with (refine wpList_load_r rfl 146 _ rfl _ rfl 8 _ Try.underlying146 rfl (by kernel_rfl) (by (simp [go_sem, hbs]; done)) ?_; intro C hC; simp [go_sem] at hC; subst hC)
      trace_state
      have hsk : ss.take k = ss := List.take_of_length_le (by rw [HD.out]; exact Nat.le_refl _)
      rw [hsk] at HO
      rw [hsk]
      obtain ⟨ra, rc, hv⟩ := own_form hown
      subst hv
      generalize hWW : ((w.alloc (.cells #[.int .i64 cn, .int .i64 cs, .int .i64 cy, .int .i64 cb] 54)).alloc (.cells (boolA (toldL cn ss)) 146)).later l = WW at *
      have hWb : Below w.heap.size w (WW d) := by rw [← hWW]; exact (by repeat (first | exact Below.refl _ _ | apply bs_later | apply bs_alloc | apply bs_drew | apply bs_drewN))
      have hcs1 := own_caps (HO.out d)
      have HS1 := Lib.hid (own_slots_n (by rw [len_stepL, HD.out]) (HO.out d))
      have HWB := Lib.hid hWb
      clear hown HO hWb hWW hsk
      go_wp2
      go_loopw [10, 60] (RelTL (toldL cn ss) (WW d)) (fun _ i _ => 8 - (intOf i).toNat)
      case atStart => exact ⟨0, #[], _, by omega, rfl, later_zero _, World.ownsRow_nil _ _ _ _⟩
      case round =>
        obtain ⟨j, l2, d2, hj, rfl, rfl, hown⟩ := hrel
        have HO2 := Lib.hid (own_any hown)
        by_cases hj8 : j < 8
        · have hbat := boolA_at (toldL cn ss) hj8
          have hbs8 := boolA_size (toldL cn ss)
          have hj8I : (j : Int) < 8 := by omega
          have hbg : ∀ h, (boolA (toldL cn ss))[j]'h = Value.bool (decide ((j : Int) ∈ toldL cn ss)) := fun h => Option.some.inj ((Array.getElem?_eq_getElem h).symm.trans hbat)
          have HAS := Lib.hid (ascK_succ (toldL cn ss) j)
          have hal := ascK_le (toldL cn ss) j
          have hrun := fun w => run_told (boolA (toldL cn ss)) j _ hj8 hbat w
          by_cases hm : (j : Int) ∈ toldL cn ss
          · rw [decide_eq_true hm] at hbat hbg hrun
            rw [if_pos hm] at HAS
            clear hown hm
            go_wp2_with (at_builtin; refine wpList_append_own _ rfl _ _ 30 rfl (WW d).heap.size 3 i0 (.int .i64 0) 1 8 Try.underlying30 hi hz0 hz1 hz2 rfl (by decide) _ _ _ rfl ((HO2.out _).alloc _) ⟨_, 0, none⟩ 1 1 [.int .i64 (j : Int)] rfl rfl ?d1z8 ?d2z8 ?d3z8 ?d4z8 ?d5z8 ?_)
            try (case d1z8 => exact one_newI (by simp))
            try (case d2z8 => first | (intro u hu; simp at hu; subst hu; rfl) | rfl)
            try (case d3z8 => unfold maxLen; omega)
            try (case d4z8 => omega)
            try (case d5z8 => first | omega | (simp; omega))
            intro v' w1 hown2 hgrow hnil
            have hb5 := below_grown (W0 := WW d) (by repeat (first | exact Below.refl _ _ | apply bs_later | apply bs_alloc | apply bs_drew | apply bs_drewN)) hgrow (fun g' hg' => by have := ((HO2.out 0).lt g' hg').1; omega)
            obtain ⟨l5, d5, rfl⟩ := later_of hb5
            have HN := Lib.hid (own_any hown2)
            clear hown2 hgrow hnil hb5
            go_wp2
            exact ⟨⟨j + 1, _, _, hj8, by go_num, rfl, by rw [HAS.out, List.map_append, List.length_append]; exact HN.out _⟩, by simp [intOf]; omega⟩
          · rw [decide_eq_false hm] at hbat hbg hrun
            rw [if_neg hm, List.append_nil] at HAS
            clear hown hm
            go_wp2
            exact ⟨⟨j + 1, _, _, hj8, by go_num, rfl, by rw [HAS.out]; exact HO2.out _⟩, by simp [intOf]; omega⟩
        · obtain rfl : j = 8 := by omega
          obtain ⟨sa, sc, hv2⟩ := own_form hown
          subst hv2
          have hcs2 := own_caps hown
          clear hown
          go_wp2
          go_ret2
          refine ⟨(by repeat (first | exact HWB.out | apply bs_later | apply bs_alloc | apply bs_drew | apply bs_drewN)), ra, rc, sa, sc, ?_, ?_, hcs1.2, hcs2.1, hcs2.2, SlotsAt.below HS1.out (by repeat (first | exact Below.refl _ _ | apply bs_later | apply bs_alloc | apply bs_drew | apply bs_drewN)), (own_ints (HO2.out _)).2⟩
          · rw [HD.out]; rfl
          · rw [HD.out]; exact hcs1.1
end Go.Proofs.Ytffhfpdmfegcpac.slot
