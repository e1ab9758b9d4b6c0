/- The contract of ring.Step. -/
import Derived.Test.YtffhfpdmfegcpaaSortOwnA
import Derived.Test.YtffhfpdmfegcpaaAddrNode
import Derived.OneCell
namespace Go.Proofs.Ytffhfpdmfegcpaa.slot
open Go.ChangeShapes Go.WideShapes Go.ChangeAt Go.RowKit
open Go.Proofs.Ytffhfpdmfegcpaa.base Go.Proofs.Ytffhfpdmfegcpaa.flat Go.Proofs.Ytffhfpdmfegcpaa.table Go.Proofs.Ytffhfpdmfegcpaa.addr
set_option linter.unusedVariables false
set_option linter.unusedSimpArgs false

/-- what Step answers -/
def StepPost (cn cs cy cb : Int) (ss : List S4) (w : World) (e : Ending) (w' : World) : Prop :=
  Below w.heap.size w w' ∧ ((ringE cn cs cy cb ss = 0 ∧ ∃ a c a2 c2, e = .returned (.tuple #[.slice a ss.length c, .slice a2 (toldL cn ss).length c2, .int .i64 0]) ∧ ss.length ≤ c ∧ c ≤ maxLen ∧ (toldL cn ss).length ≤ c2 ∧ c2 ≤ maxLen ∧ SlotsAt w' a (stepL cn ss) ∧ IntsAt .i64 w' a2 (sortI (toldL cn ss)))
    ∨ (¬ ringE cn cs cy cb ss = 0 ∧ e = .returned (.tuple #[.slice none 0 0, .slice none 0 0, .int .i64 (ringE cn cs cy cb ss)])))

def RelStep (cn : Int) (ss : List S4) (g n c2 : Nat) (w0 : World) (t i : Value) (wr : World) : Prop :=
  ∃ (k : Nat) (l : Array Obj) (d : Nat), k ≤ n ∧ i = .int .i64 k ∧ wr = w0.later l d ∧ (w0.later l d).ownsRow w0.heap.size 67 4 (.slice (some ⟨g, 0, none⟩) n c2) n (cellsS (mixL cn ss k))
    ∧ (w0.later l d).ownsRow (g + 1) 3 1 t (toldL cn (ss.take k)).length ((toldL cn (ss.take k)).map (Value.int .i64))
theorem own_le {w : World} {base base' n size : Nat} {e : TypeId} {v : Value} {xs : List Value} (h : w.ownsRow base e size v n xs) (hb : base' ≤ base) : w.ownsRow base' e size v n xs :=
  ⟨h.1, h.2.imp id fun ⟨g, c, cur, h1, h2, h3⟩ => ⟨g, c, cur, h1, Nat.le_trans hb h2, h3⟩⟩
theorem own_any {W : World} {l : Array Obj} {d base n size : Nat} {e : TypeId} {v : Value} {xs : List Value} (h : (W.later l d).ownsRow base e size v n xs) : ∀ d', (W.later l d').ownsRow base e size v n xs := fun _ => h
theorem own_ne {w : World} {g n size : Nat} {e : TypeId} {v : Value} {xs : List Value} (h : w.ownsRow (g + 1) e size v n xs) : v.ownBlock ≠ some g := by
  intro e
  have := (h.lt g e).1
  omega
theorem one_newI {W : World} {v : Value} {t : TypeId} {g : Nat} (hg : g = W.heap.size) : ∀ (j : Nat) (u : Value), [v][j]? = some u → (W.alloc (.cells #[v] t)).cell? ((⟨g, 0, none⟩ : Addr).add j) = some u := by
  intro j u h
  subst hg
  cases j with
  | zero => simp at h; subst h; simp [Addr.add]
  | succ j => simp at h
theorem toldL_le (cn : Int) (ss : List S4) (k : Nat) : (toldL cn (ss.take k)).length ≤ k := by
  unfold toldL
  rw [List.length_map]
  exact Nat.le_trans (List.length_filter_le _ _) (by rw [List.length_take]; omega)
theorem info_intS : (Try.prog.info? 3).map (fun i => (i.zero, i.size, i.bytes)) = some (some (.int .i64 0), 1, 8) := by kernel_rfl
/-- a slot's first number stored -/
theorem own_at {W : World} {l : Array Obj} {d base g n cap : Nat} {e : TypeId} {xs : List S4} (h : (W.later l d).ownsRow base e 4 (.slice (some ⟨g, 0, none⟩) n cap) n (cellsS xs)) (hd : xs.length = n) (hb : W.heap.size ≤ base) (hg : base ≤ g) {k : Nat} {x : S4} (hx : xs[k]? = some x) (A : Int) :
    ∃ l1 d1, (W.later l d).setCell ⟨g, k * 4, none⟩ (.int .i64 A) = W.later l1 d1 ∧ l1.size = l.size ∧ farB W l1 g
      ∧ ((∀ d', (W.later l1 d').cell? ⟨g, k * 4, none⟩ = some (.int .i64 A)) ∧ (∀ d', (W.later l1 d').cell? ⟨g, k * 4 + 1, none⟩ = some (.bool x.full)) ∧ (∀ d', (W.later l1 d').cell? ⟨g, k * 4 + 2, none⟩ = some (.int .i64 x.by_)) ∧ (∀ d', (W.later l1 d').cell? ⟨g, k * 4 + 3, none⟩ = some (.int .i64 x.wait)))
      ∧ ∀ d', (W.later l1 d').ownsRow base e 4 (.slice (some ⟨g, 0, none⟩) n cap) n (cellsS (xs.set k ⟨A, x.full, x.by_, x.wait⟩)) := by
  have hk := (List.getElem?_eq_some_iff.1 hx).1
  obtain ⟨xa, xf, xb, xw⟩ := x
  obtain ⟨l1, d1, e1, s1, h1⟩ := own_store h hb hg (k * 4) (.int .i64 A)
  rw [show k * 4 = k * 4 + 0 by omega, cellsS_set xs k 0 _ ⟨A, xf, xb, xw⟩ _ hx (by omega) rfl] at h1
  refine ⟨l1, d1, e1, s1, ?_, ?_, fun _ => h1⟩
  · have := (own_block h1).2; simpa [farB] using this
  · have := SlotsAt.at (own_slots_n (by rw [List.length_set, hd]) h1) (List.getElem?_set_self hk)
    simp only [Nat.zero_add] at this
    exact ⟨fun _ => this.1, fun _ => this.2.1, fun _ => this.2.2.1, fun _ => this.2.2.2⟩

theorem nodeV_step {n s y b f : Int} (hc : CfgOK n s y b) (h : 0 ≤ f ∧ f ≤ n - 1) : nodeV n s y b f 1 = stepAt n f ∧ nodeE n s y b f 1 = 0 := by
  have h2 : 2 ≤ n := hc.1
  have hok : NodeOK n s y b f 1 := ⟨hc, h.1, h.2, by omega⟩
  refine ⟨?_, if_pos hok⟩
  unfold nodeV
  rw [if_pos hok, Int.emod_eq_of_lt (by omega : (0 : Int) ≤ 1) (by omega)]
  unfold stepAt
  by_cases he : f + 1 = n
  · rw [if_pos he, he, Int.emod_self]
  · rw [if_neg he, Int.emod_eq_of_lt (by omega) (by omega)]

set_option maxHeartbeats 4000000 in
set_option maxRecDepth 100000 in
theorem step_ok (cn cs cy cb : Int) (ss : List S4) (b off : Nat) (n c : Nat) (w : World) (hnc : n ≤ c) (hcm : c ≤ maxLen) (hd : ss.length = n) (h : SlotsAt w (some ⟨b, off, none⟩) ss) (h0 : ringE cn cs cy cb ss = 0) :
    Calls Try.prog 39 #[.agg #[.int .i64 cn, .int .i64 cs, .int .i64 cy, .int .i64 cb], .slice (some ⟨b, off, none⟩) n c] w (StepPost cn cs cy cb ss w) := by
  have hlen := ringE_len h0
  have hok := ringOK_iff.1 hlen.2.2.2
  have hcfg := hlen.2.2.1
  have hcn : 2 ≤ cn ∧ cn ≤ 8 := ⟨hcfg.1, hcfg.2.1⟩
  have hn1 : 1 ≤ n := by omega
  have hn8 : n ≤ 8 := by omega
  have PC := fun w h => ringCheck_any cn cs cy cb ss (some ⟨b, off, none⟩) n c w hnc hcm hd h
  rw [h0] at PC
  have HP := Lib.hid PC
  have HT := Lib.hid h
  have HK := Lib.hid fun w h => clone_any ss b off n c w hn8 hd h
  have HD := Lib.hid hd
  have H0 := Lib.hid h0
  have HOK := Lib.hid hok
  have HCFG := Lib.hid hcfg
  unfold maxLen at hcm
  clear h h0 hd hlen hok hcfg PC
  obtain ⟨i0, hi, hz0, hz1, hz2⟩ := info_parts info_intS
  go_enter Try.func39, Try.ntmps39
  go_wp2_with (first
    | (go_at_call 45; refine (HP.out _ (SlotsAt.below HT.out (by repeat (first | exact Below.refl _ _ | apply bs_later | apply bs_alloc | apply bs_drew | apply bs_drewN)))).mono ?_; rintro e w1 ⟨rfl, hb1⟩; obtain ⟨l1, d1, rfl⟩ := later_of hb1; clear hb1)
    | (go_at_call 61; refine (HK.out _ (SlotsAt.below HT.out (by repeat (first | exact Below.refl _ _ | apply bs_later | apply bs_alloc | apply bs_drew | apply bs_drewN)))).mono ?_; rintro e w1 ⟨v, rfl, hown, hb1⟩; obtain ⟨l3, d3, rfl⟩ := later_of hb1; rw [HD.out] at hown; obtain ⟨g, c2, rfl, hg⟩ := own_head (by omega) hown; have hcap := own_caps hown; have HO := Lib.hid hown; clear hown hb1))
  have hgb : w.heap.size + 1 ≤ g := by simp at hg; omega
  have HO1 : Hid (((w.alloc (.cells #[.int .i64 cn, .int .i64 cs, .int .i64 cy, .int .i64 cb] 42)).later (l1 ++ l3) d3).ownsRow (w.alloc (.cells #[.int .i64 cn, .int .i64 cs, .int .i64 cy, .int .i64 cb] 42)).heap.size 67 4 (.slice (some ⟨g, 0, none⟩) n c2) n (cellsS ss)) := Lib.hid (by have h := HO.out; rw [later_later] at h; exact own_le h (by simp))
  clear HO
  go_loopw [8, 21] (RelStep cn ss g n c2 (w.alloc (.cells #[.int .i64 cn, .int .i64 cs, .int .i64 cy, .int .i64 cb] 42))) (fun _ i _ => n - (intOf i).toNat)
  case atStart => exact ⟨0, _, _, by omega, rfl, later_later _ _ _ _ _, by rw [mixL_zero]; exact HO1.out, World.ownsRow_nil _ _ _ _⟩
  case round =>
    obtain ⟨k, l, d, hk, rfl, rfl, hown, htold⟩ := hrel
    have HO := Lib.hid hown
    have HTO := Lib.hid htold
    have HNE := Lib.hid (own_ne htold)
    by_cases hlt : k < n
    · obtain ⟨x, hx⟩ := get_some (xs := ss) (k := k) (by rw [HD.out]; exact hlt)
      have hxin := HOK.out.inn x (List.mem_of_getElem? hx)
      have hxid := HOK.out.idle x (List.mem_of_getElem? hx)
      have hxm := mixL_get (cn := cn) hx
      have hlm : (mixL cn ss k).length = n := by rw [len_mixL, HD.out]
      obtain ⟨c0, c1, c2', c3⟩ := SlotsAt.at (own_slots_n hlm hown) hxm
      simp only [Nat.zero_add] at c0 c1 c2' c3
      have hf0 := hown.frozenAt (k * 4)
      have hf1 := hown.frozenAt (k * 4 + 1)
      have hf2 := hown.frozenAt (k * 4 + 2)
      have hf3 := hown.frozenAt (k * 4 + 3)
      have HX := Lib.hid hx
      have HXM := Lib.hid hxm
      have HSET := Lib.hid (mixL_set (cn := cn) hx)
      have HTS := Lib.hid (toldL_snoc (cn := cn) hx)
      have HLM := Lib.hid hlm
      have hgf : farB (w.alloc (.cells #[.int .i64 cn, .int .i64 cs, .int .i64 cy, .int .i64 cb] 42)) l g := by have h := (own_block HO.out).2; simpa [farB] using h
      clear hx hown htold hxm hlm
      obtain ⟨xa, xf, xb, xw⟩ := x
      simp only at c0 c1 c2' c3 hxid
      obtain ⟨hi1, hi2, hi3⟩ := hxin
      simp only at hi1 hi2 hi3
      have c0d : ((w.alloc (.cells #[.int .i64 cn, .int .i64 cs, .int .i64 cy, .int .i64 cb] 42)).later l (d + 1)).cell? ⟨g, k * 4, none⟩ = some (.int .i64 xa) := c0
      by_cases hw : 0 < xw
      · have hxf : xf = true := by
          cases xf with
          | true => rfl
          | false => have := (hxid rfl).2; omega
        subst hxf
        obtain ⟨l3', d3', e3, s3, h3⟩ := own_store HO.out (Nat.le_refl _) (by simpa using hgb) (k * 4 + 3) (.int .i64 (xw - 1))
        have hst : (⟨xa, true, xb, xw⟩ : S4).step cn = ⟨xa, true, xb, xw - 1⟩ := if_pos hw
        have htl : (⟨xa, true, xb, xw⟩ : S4).tells cn = false := by unfold S4.tells; rw [decide_eq_false (by show ¬ xw ≤ 0; omega)]; rfl
        rw [cellsS_set _ k 3 _ ⟨xa, true, xb, xw - 1⟩ _ HXM.out (by omega) rfl, ← hst, HSET.out] at h3
        have HO3 := Lib.hid h3
        have HT3 := Lib.hid (ownsRow_setCell_other HTO.out (a := ⟨g, k * 4 + 3, none⟩) HNE.out (.int .i64 (xw - 1)))
        rw [e3] at HT3
        rw [htl] at HTS
        simp only [Bool.false_eq_true, if_false, List.append_nil] at HTS
        clear h3 hst htl
        go_wp2
        exact ⟨⟨k + 1, _, _, hlt, by go_num, rfl, HO3.out, by rw [HTS.out]; exact HT3.out⟩, by simp [intOf]; omega⟩
      · obtain rfl : xw = 0 := by omega
        have hnv := nodeV_step HCFG.out hi1
        have PN := fun w => node_any cn cs cy cb xa 1 w (by decide)
        rw [hnv.1, hnv.2] at PN
        have HN := Lib.hid PN
        have hstep : (⟨xa, xf, xb, 0⟩ : S4).step cn = if xf = true ∧ xb = stepAt cn xa then ⟨stepAt cn xa, false, 0, 0⟩ else ⟨stepAt cn xa, xf, xb, 0⟩ := if_neg hw
        have htell : (⟨xa, xf, xb, 0⟩ : S4).tells cn = (xf && decide (xb = stepAt cn xa)) := Bool.true_and _
        generalize hat : stepAt cn xa = A at *
        clear PN hnv
        by_cases hfb : xf = true ∧ xb = A
        · obtain ⟨rfl, rfl⟩ := hfb
          rw [if_pos ⟨rfl, rfl⟩] at hstep
          rw [htell, decide_eq_true rfl] at HTS
          simp only [Bool.and_self, if_true] at HTS
          rw [hstep] at HSET
          clear hstep htell
          go_wp2
          go_region_with (go_at_call 25; refine (HN.out _).mono ?_; rintro e w1 ⟨rfl, hb1⟩; obtain ⟨l2, d2, rfl⟩ := later_of hb1; clear hb1; rw [later_later]; obtain ⟨l4, d4, e1, -, g1, ⟨k0, k1, k2, k3⟩, h1⟩ := own_at (own_more HO.out l2 d2) HLM.out (Nat.le_refl _) (by simpa using hgb) HXM.out xb; have hz0' := (own_more HO.out l2 d2).frozenAt (k * 4); obtain ⟨p0, p1, p2, p3⟩ := SlotsAt.at (own_slots_n HLM.out (own_more HO.out l2 d2)) HXM.out; simp only [Nat.zero_add] at p0 p1 p2 p3; have hfr : farB (w.alloc (.cells #[.int .i64 cn, .int .i64 cs, .int .i64 cy, .int .i64 cb] 42)) (l ++ l2) g := (by have h := (own_block (own_more HO.out l2 d2)).2; simpa [farB] using h); have HO4 := Lib.hid h1; have HT4 := Lib.hid (ownsRow_setCell_other (own_more HTO.out l2 d2) (a := ⟨g, k * 4, none⟩) HNE.out (.int .i64 xb)); rw [e1] at HT4; replace HT4 := Lib.hid (own_any HT4.out); simp only at k0 k1 k2 k3; clear h1)
          all_goals go_wp2
          all_goals go_quiet (fail)
          all_goals
            go_wp2_with (at_builtin; refine wpList_append_own _ rfl _ _ 24 rfl (g + 1) 3 i0 (.int .i64 0) 1 8 Try.underlying24 hi hz0 hz1 hz2 rfl (by decide) _ _ _ rfl ((HT4.out _).alloc _) ⟨w.heap.size + 1 + l4.size, 0, none⟩ 1 1 [.int .i64 xb] rfl rfl ?d1 ?d2 ?d3 ?d4 ?d5 ?_)
            case d1 => exact one_newI (by simp)
            case d2 => intro u hu; simp at hu; subst hu; rfl
            case d3 => have := toldL_le cn ss k; unfold maxLen; omega
            case d4 => have := toldL_le cn ss k; omega
            case d5 => have := (own_block (HO4.out 0)).2; simp at this; simp; omega
            intro v' w1 hown5 hgrow hnil5
            have hb5 := below_grown (W0 := (w.alloc (.cells #[.int .i64 cn, .int .i64 cs, .int .i64 cy, .int .i64 cb] 42))) (by repeat (first | exact Below.refl _ _ | apply bs_later | apply bs_alloc | apply bs_drew | apply bs_drewN)) hgrow (fun g' hg' => by have := ((HT4.out 0).lt g' hg').1; simp; omega)
            have hown6 := ((HO4.out _).alloc _).kept hgrow (.inr (fun h => HNE.out h.symm))
            obtain ⟨l5, d5, rfl⟩ := later_of hb5
            have hx6 := List.getElem?_set_self (l := mixL cn ss k) (i := k) (a := (⟨xb, true, xb, 0⟩ : S4)) (by rw [HLM.out]; exact hlt)
            obtain ⟨m0, m1, m2, m3⟩ := SlotsAt.at (own_slots_n (by rw [List.length_set, HLM.out]) hown6) hx6
            simp only [Nat.zero_add] at m0 m1 m2 m3
            have mf0 := hown6.frozenAt (k * 4)
            have mgf : farB (w.alloc (.cells #[.int .i64 cn, .int .i64 cs, .int .i64 cy, .int .i64 cb] 42)) l5 g := by have h := (own_block hown6).2; simpa [farB] using h
            obtain ⟨l1', d1', l2', d2', l3', d3', l4', d4', e1', s1', g1', k1', f1', e2', s2', g2', k2', f2', e3', s3', g3', k3', f3', e4', s4', h4'⟩ := own_slot hown6 (by rw [List.length_set, HLM.out]) (Nat.le_refl _) (by simpa using hgb) hx6 ⟨xb, false, 0, 0⟩
            have hne5 := own_ne hown5
            have q1 := ownsRow_setCell_other hown5 (a := ⟨g, k * 4, none⟩) hne5 (.int .i64 xb)
            simp only at e1' k1' e2' k2' e3' k3' e4'
            rw [e1'] at q1
            have q2 := ownsRow_setCell_other q1 (a := ⟨g, k * 4 + 1, none⟩) hne5 (.bool false)
            rw [e2'] at q2
            have q3 := ownsRow_setCell_other q2 (a := ⟨g, k * 4 + 2, none⟩) hne5 (.int .i64 0)
            rw [e3'] at q3
            have q4 := ownsRow_setCell_other q3 (a := ⟨g, k * 4 + 3, none⟩) hne5 (.int .i64 0)
            rw [e4'] at q4
            rw [List.set_set, HSET.out] at h4'
            have HQ := Lib.hid q4
            have HR4 := Lib.hid h4'
            clear hown5 hgrow hnil5 hb5 hown6 hx6 q1 q2 q3 q4 h4'
            go_wp2
            exact ⟨⟨k + 1, _, _, hlt, by go_num, rfl, HR4.out, by rw [HTS.out, List.map_append, List.length_append]; exact HQ.out⟩, by simp [intOf]; omega⟩
        · rw [if_neg hfb] at hstep
          have htell2 : (⟨xa, xf, xb, 0⟩ : S4).tells cn = false := by
            rw [htell]
            cases xf with
            | false => rfl
            | true => rw [decide_eq_false (fun h => hfb ⟨rfl, h⟩)]; rfl
          rw [htell2] at HTS
          simp only [Bool.false_eq_true, if_false, List.append_nil] at HTS
          rw [hstep] at HSET
          have hfb' : xf = false ∨ (xf = true ∧ (A == xb) = false) := by
            cases xf with
            | false => exact .inl rfl
            | true => refine .inr ⟨rfl, ?_⟩; simp only [true_and] at hfb; simpa using fun h : A = xb => hfb h.symm
          clear hstep htell htell2 hfb
          rcases hfb' with rfl | ⟨rfl, hne⟩
          all_goals
            go_wp2
            go_region_with (go_at_call 25; refine (HN.out _).mono ?_; rintro e w1 ⟨rfl, hb1⟩; obtain ⟨l2, d2, rfl⟩ := later_of hb1; clear hb1; rw [later_later]; obtain ⟨l4, d4, e1, -, g1, ⟨k0, k1, k2, k3⟩, h1⟩ := own_at (own_more HO.out l2 d2) HLM.out (Nat.le_refl _) (by simpa using hgb) HXM.out A; have hz0' := (own_more HO.out l2 d2).frozenAt (k * 4); obtain ⟨p0, p1, p2, p3⟩ := SlotsAt.at (own_slots_n HLM.out (own_more HO.out l2 d2)) HXM.out; simp only [Nat.zero_add] at p0 p1 p2 p3; have hfr : farB (w.alloc (.cells #[.int .i64 cn, .int .i64 cs, .int .i64 cy, .int .i64 cb] 42)) (l ++ l2) g := (by have h := (own_block (own_more HO.out l2 d2)).2; simpa [farB] using h); have HO4 := Lib.hid h1; have HT4 := Lib.hid (ownsRow_setCell_other (own_more HTO.out l2 d2) (a := ⟨g, k * 4, none⟩) HNE.out (.int .i64 A)); rw [e1] at HT4; replace HT4 := Lib.hid (own_any HT4.out); simp only at k0 k1 k2 k3; clear h1)
            all_goals go_wp2
            all_goals go_quiet (fail)
            all_goals
              go_wp2
              exact ⟨⟨k + 1, _, _, hlt, by go_num, rfl, by rw [← HSET.out]; exact HO4.out _, by rw [HTS.out]; exact HT4.out _⟩, by simp [intOf]; omega⟩
    · obtain rfl : k = n := by omega
      have hall := toldL_le cn ss k
      obtain ⟨sa, sc, hv⟩ := own_form htold
      subst hv
      have htk : ss.take k = ss := List.take_of_length_le (by rw [HD.out]; exact Nat.le_refl _)
      rw [htk] at HTO HNE hall htold
      have hmx : mixL cn ss k = stepL cn ss := by rw [← HD.out]; exact mixL_all cn ss
      rw [hmx] at HO
      clear hown htold hmx htk
      rw [show ss.take k = ss from List.take_of_length_le (by rw [HD.out]; exact Nat.le_refl _)]
      go_wp2_with (go_at_call 41; refine (sort_own (by omega) HTO.out).mono ?_; rintro e w1 ⟨rfl, hs1, hs2, hs3⟩; have hb5 := hs3 (w.alloc (.cells #[.int .i64 cn, .int .i64 cs, .int .i64 cy, .int .i64 cb] 42)) (by simp; omega) (by repeat (first | exact Below.refl _ _ | apply bs_later | apply bs_alloc | apply bs_drew | apply bs_drewN)); have hr5 := hs2 _ _ _ _ _ _ HO.out (.inr (fun h => HNE.out h.symm)); obtain ⟨l5, d5, rfl⟩ := later_of hb5; have HS1 := Lib.hid hs1; have HR5 := Lib.hid hr5; clear hs1 hs2 hs3 hb5 hr5)
      go_ret3
      have hcs := own_caps HS1.out
      refine ⟨(by repeat (first | exact Below.refl _ _ | apply bs_later | apply bs_alloc | apply bs_drew | apply bs_drewN)), .inl ⟨H0.out, some ⟨g, 0, none⟩, c2, sa, sc, ?_, ?_, hcap.2, hcs.1, hcs.2, ?_, (own_ints HS1.out).2⟩⟩
      · rw [HD.out]; rfl
      · rw [HD.out]; exact hcap.1
      · exact own_slots_n (by rw [len_stepL, HD.out]) HR5.out
set_option maxHeartbeats 1000000 in
set_option maxRecDepth 100000 in
theorem step_any (cn cs cy cb : Int) (ss : List S4) (a : Option Addr) (n c : Nat) (w : World) (hnc : n ≤ c) (hcm : c ≤ maxLen) (hd : ss.length = n) (h : SlotsAt w a ss) :
    Calls Try.prog 39 #[.agg #[.int .i64 cn, .int .i64 cs, .int .i64 cy, .int .i64 cb], .slice a n c] w (StepPost cn cs cy cb ss w) := by
  by_cases hr : ringE cn cs cy cb ss = 0
  · obtain ⟨x, hx⟩ := get_some (xs := ss) (k := 0) (by have := (ringE_len hr).1; omega)
    obtain ⟨b, off, rfl⟩ := SlotsAt.form h hx
    exact step_ok cn cs cy cb ss b off n c w hnc hcm hd h hr
  · have HP := Lib.hid fun w h => ringCheck_any cn cs cy cb ss a n c w hnc hcm hd h
    have HT := Lib.hid h
    have HN := Lib.hid hr
    have hr' : (ringE cn cs cy cb ss != 0) = true := by simpa using hr
    clear h hd hr
    go_enter Try.func39, Try.ntmps39
    go_wp2_with (go_at_call 45; refine (HP.out _ (SlotsAt.below HT.out (by repeat (first | exact Below.refl _ _ | apply bs_later | apply bs_alloc | apply bs_drew | apply bs_drewN)))).mono ?_; rintro e w1 ⟨rfl, hb1⟩; obtain ⟨l1, d1, rfl⟩ := later_of hb1; clear hb1)
    go_ret3
    exact ⟨(by repeat (first | exact Below.refl _ _ | apply bs_later | apply bs_alloc | apply bs_drew | apply bs_drewN)), .inr ⟨HN.out, rfl⟩⟩

end Go.Proofs.Ytffhfpdmfegcpaa.slot
