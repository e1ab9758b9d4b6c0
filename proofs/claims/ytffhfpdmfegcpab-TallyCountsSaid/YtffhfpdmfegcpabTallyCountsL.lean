/- ringdovekeep.TallyCounts: for every config and all events, the call returns true. -/
import Derived.Test.YtffhfpdmfegcpabTallyCounts
import Derived.Test.YtffhfpdmfegcpabTallyLogs
import Derived.Test.YtffhfpdmfegcpabTallySum
import Derived.Test.YtffhfpdmfegcpabKnob
namespace Go.Proofs.Ytffhfpdmfegcpab.tallyCounts
open Go.ChangeShapes Go.WideShapes Go.ChangeAt Go.RowKit
open Go.Proofs.Ytffhfpdmfegcpab.base Go.Proofs.Ytffhfpdmfegcpab.knob Go.Proofs.Ytffhfpdmfegcpab.flat Go.Proofs.Ytffhfpdmfegcpab.table Go.Proofs.Ytffhfpdmfegcpab.addr Go.Proofs.Ytffhfpdmfegcpab.atomic Go.Proofs.Ytffhfpdmfegcpab.told Go.Proofs.Ytffhfpdmfegcpab.prog Go.Proofs.Ytffhfpdmfegcpab.tally
set_option linter.unusedVariables false
set_option linter.unusedSimpArgs false

set_option maxRecDepth 100000 in
theorem small_any (w : World) : Calls Try.prog 65 #[] w (Ret (.agg #[.int .i64 2, .int .i64 1, .int .i64 1, .int .i64 1]) w) := by
  go_enter Try.func65, Try.ntmps65
  go_wp2
  go_returns
  exact ⟨rfl, (by repeat (first | exact Below.refl _ _ | apply bs_later | apply bs_alloc | apply bs_drew | apply bs_drewN))⟩
set_option maxHeartbeats 1000000 in
set_option maxRecDepth 100000 in
theorem tallies_any (w : World) : Calls Try.prog 23 #[] w (Ret (.bool true) w) := by
  have HC : Hid (∀ w, Calls Try.prog 24 #[.agg #[.int .i64 2, .int .i64 1, .int .i64 1, .int .i64 1], .slice none 0 0] w fun e w' => ∃ a c, e = .returned (.tuple #[.slice a 2 c, .int .i64 0]) ∧ Below w.heap.size w w') := Lib.hid fun w =>
    (counts_any 2 1 1 1 [] none 0 0 w rfl (by decide) (.inl rfl)).mono fun e w' ⟨hb, h⟩ => by
      have h0 : tallyE 2 1 1 1 [] = 0 := by decide
      rcases h with ⟨_, a, c, h1, _⟩ | ⟨h, _⟩
      · exact ⟨a, c, h1, hb⟩
      · exact absurd h0 h
  go_enter Try.func23, Try.ntmps23
  go_wp2_with (first
    | (go_at_call 65; refine (small_any _).mono ?_; rintro e w1 ⟨rfl, hb1⟩; obtain ⟨l1, d1, rfl⟩ := later_of hb1; clear hb1)
    | (go_at_call 24; refine (HC.out _).mono ?_; rintro e w1 ⟨a, c, rfl, hb1⟩; obtain ⟨l2, d2, rfl⟩ := later_of hb1; clear hb1))
  go_ret
  exact ⟨rfl, (by repeat (first | exact Below.refl _ _ | apply bs_later | apply bs_alloc | apply bs_drew | apply bs_drewN))⟩

theorem below_trans {W0 w w' : World} (h : Below W0.heap.size W0 w) (hb : Below w.heap.size w w') : Below W0.heap.size W0 w' := by
  obtain ⟨l, d, rfl⟩ := later_of hb
  exact bs_later h l d
set_option maxHeartbeats 1000000 in
set_option maxRecDepth 100000 in
theorem walk_bad (cn cs cy cb : Int) (ts : List E6) (a : Option Addr) (m c : Nat) (w : World) (hm : ts.length = m) (hm2 : m ≤ maxLen) (hL : EventsAt w a ts) (h0 : ¬ tallyE cn cs cy cb ts = 0) :
    Calls Try.prog 4 #[.agg #[.int .i64 cn, .int .i64 cs, .int .i64 cy, .int .i64 cb], .slice a m c] w (Ret (.bool true) w) := by
  have PC := fun w h => counts_any cn cs cy cb ts a m c w hm hm2 h
  have PL := fun w h => logs_any cn cs cy cb ts a m c w hm hm2 h
  have HT := Lib.hid hL
  have H0 := Lib.hid h0
  generalize tallyE cn cs cy cb ts = E at *
  have HC : Hid (∀ w, EventsAt w a ts → Calls Try.prog 24 #[.agg #[.int .i64 cn, .int .i64 cs, .int .i64 cy, .int .i64 cb], .slice a m c] w (Ret (.tuple #[.slice none 0 0, .int .i64 E]) w)) := Lib.hid fun w h => (PC w h).mono fun e w' ⟨hb, h⟩ => by
    rcases h with ⟨h, _⟩ | ⟨_, h⟩
    · exact absurd h H0.out
    · exact ⟨h, hb⟩
  have HL : Hid (∀ w, EventsAt w a ts → Calls Try.prog 25 #[.agg #[.int .i64 cn, .int .i64 cs, .int .i64 cy, .int .i64 cb], .slice a m c] w (Ret (.tuple #[.slice none 0 0, .int .i64 E]) w)) := Lib.hid fun w h => (PL w h).mono fun e w' ⟨hb, h⟩ => by
    rcases h with ⟨h, _⟩ | ⟨_, h⟩
    · exact absurd h H0.out
    · exact ⟨h, hb⟩
  have hE : (E != 0) = true := by simpa using h0
  have hEE : (E == E) = true := by simp
  clear PC PL hL h0 hm
  go_enter Try.func4, Try.ntmps4
  go_wp2_with (first
    | (go_at_call 23; refine (tallies_any _).mono ?_; rintro e w1 ⟨rfl, hb1⟩; obtain ⟨l1, d1, rfl⟩ := later_of hb1; clear hb1)
    | (go_at_call 24; refine (HC.out _ (EventsAt.below HT.out (by repeat (first | exact Below.refl _ _ | apply bs_later | apply bs_alloc | apply bs_drew | apply bs_drewN)))).mono ?_; rintro e w1 ⟨rfl, hb1⟩; obtain ⟨l2, d2, rfl⟩ := later_of hb1; clear hb1)
    | (go_at_call 25; refine (HL.out _ (EventsAt.below HT.out (by repeat (first | exact Below.refl _ _ | apply bs_later | apply bs_alloc | apply bs_drew | apply bs_drewN)))).mono ?_; rintro e w1 ⟨rfl, hb1⟩; obtain ⟨l3, d3, rfl⟩ := later_of hb1; clear hb1))
  go_ret
  exact ⟨rfl, (by repeat (first | exact Below.refl _ _ | apply bs_later | apply bs_alloc | apply bs_drew | apply bs_drewN))⟩

def Rel1 (ts : List E6) (n : Nat) (W1 : World) (v9 v11 i : Value) (wr : World) : Prop :=
  ∃ (k : Nat) (l : Array Obj) (d : Nat), k ≤ n ∧ i = .int .i64 k ∧ v9 = .int .i64 (sumTo (fun k => fourK k ts) k) ∧ v11 = .int .i64 (sumTo (fun k => (cntL k ts).e) k) ∧ wr = W1.later l d
def Rel2 (ts : List E6) (n : Nat) (W1 : World) (v10 i : Value) (wr : World) : Prop :=
  ∃ (k : Nat) (l : Array Obj) (d : Nat), k ≤ n ∧ i = .int .i64 k ∧ v10 = .int .i64 (sumTo (fun k => ((nodeT k ts).length : Nat)) k) ∧ wr = W1.later l d
def Rel3 (ts : List E6) (W1 : World) (v12 i : Value) (wr : World) : Prop :=
  ∃ (k : Nat) (l : Array Obj) (d : Nat), k ≤ ts.length ∧ i = .int .i64 k ∧ v12 = .int .i64 (wantL (ts.take k)) ∧ wr = W1.later l d
theorem four_parts (k : Nat) (ts : List E6) : fourK k ts = (cntL k ts).a + (cntL k ts).b + (cntL k ts).c + (cntL k ts).d := rfl
theorem want_bd (ts : List E6) : 0 ≤ wantL ts ∧ wantL ts ≤ ts.length := ⟨Int.natCast_nonneg _, Int.ofNat_le.2 (List.length_filter_le _ _)⟩
set_option maxHeartbeats 4000000 in
set_option maxRecDepth 100000 in
theorem walk_ok (cn cs cy cb : Int) (ts : List E6) (a : Option Addr) (m c : Nat) (w : World) (hm : ts.length = m) (hm2 : m ≤ maxLen) (hL : EventsAt w a ts) (h0 : tallyE cn cs cy cb ts = 0) :
    Calls Try.prog 4 #[.agg #[.int .i64 cn, .int .i64 cs, .int .i64 cy, .int .i64 cb], .slice a m c] w (Ret (.bool true) w) := by
  have PC := fun w h => counts_any cn cs cy cb ts a m c w hm hm2 h
  have PL := fun w h => logs_any cn cs cy cb ts a m c w hm hm2 h
  obtain ⟨hcfg, hev0⟩ := tallyE_ok h0
  obtain ⟨h200, hev⟩ := evE_ok hev0
  have hcn : 2 ≤ cn ∧ cn ≤ 8 := ⟨hcfg.1, hcfg.2.1⟩
  have hfine := fine_of hev (by omega)
  obtain ⟨n, rfl⟩ := Int.eq_ofNat_of_zero_le (by omega : 0 ≤ cn)
  rw [Int.toNat_natCast] at hfine PC PL
  have hn8 : n ≤ 8 := by omega
  have hm3 : m ≤ 200 := by omega
  have HS4 := Lib.hid (sum_four n ts hfine)
  have HSL := Lib.hid (sum_logs n ts hfine)
  have HSB := Lib.hid (sum_by n ts hfine)
  have HT := Lib.hid hL
  have HM := Lib.hid hm
  have HC : Hid (∀ w, EventsAt w a ts → Calls Try.prog 24 #[.agg #[.int .i64 (n : Int), .int .i64 cs, .int .i64 cy, .int .i64 cb], .slice a m c] w fun e w' => ∃ ao co, e = .returned (.tuple #[.slice ao n co, .int .i64 0]) ∧ CountsAt w' ao (cntsL n ts) ∧ Below w.heap.size w w') := Lib.hid fun w h => (PC w h).mono fun e w' ⟨hb, h⟩ => by
    rcases h with ⟨_, ao, co, h1, _, _, _, h2⟩ | ⟨h, _⟩
    · exact ⟨ao, co, h1, h2, hb⟩
    · exact absurd h0 h
  have HL : Hid (∀ w, EventsAt w a ts → Calls Try.prog 25 #[.agg #[.int .i64 (n : Int), .int .i64 cs, .int .i64 cy, .int .i64 cb], .slice a m c] w fun e w' => ∃ ao co, e = .returned (.tuple #[.slice ao n co, .int .i64 0]) ∧ ListsAt ToldsAt w' ao (logsL n ts) ∧ Below w.heap.size w w') := Lib.hid fun w h => (PL w h).mono fun e w' ⟨hb, h⟩ => by
    rcases h with ⟨_, ao, co, h1, _, _, _, h2⟩ | ⟨h, _⟩
    · exact ⟨ao, co, h1, h2, hb⟩
    · exact absurd h0 h
  clear PC PL hL h0 hm hcfg hev0 hev hfine
  go_enter Try.func4, Try.ntmps4
  go_wp2_with (first
    | (go_at_call 23; refine (tallies_any _).mono ?_; rintro e w1 ⟨rfl, hb1⟩; obtain ⟨l1, d1, rfl⟩ := later_of hb1; clear hb1)
    | (go_at_call 24; refine (HC.out _ (EventsAt.below HT.out (by repeat (first | exact Below.refl _ _ | apply bs_later | apply bs_alloc | apply bs_drew | apply bs_drewN)))).mono ?_; rintro e w1 ⟨ao, co, rfl, hca, hb1⟩; obtain ⟨l2, d2, rfl⟩ := later_of hb1; clear hb1; have HCA := Lib.hid hca; clear hca)
    | (go_at_call 25; refine (HL.out _ (EventsAt.below HT.out (by repeat (first | exact Below.refl _ _ | apply bs_later | apply bs_alloc | apply bs_drew | apply bs_drewN)))).mono ?_; rintro e w1 ⟨ap, cp, rfl, hla, hb1⟩; obtain ⟨l3, d3, rfl⟩ := later_of hb1; clear hb1; have HLA := Lib.hid hla; clear hla))
  have HB1 : Hid (Below w.heap.size w ((((w.alloc (.cells #[.int .i64 (n : Int), .int .i64 cs, .int .i64 cy, .int .i64 cb] 42)).later l1 d1).later l2 d2).later l3 d3)) := Lib.hid (by repeat (first | exact Below.refl _ _ | apply bs_later | apply bs_alloc | apply bs_drew | apply bs_drewN))
  have HCA1 := Lib.hid (CountsAt.below HCA.out (bs_later (Below.refl _ _) l3 d3))
  have HT1 := Lib.hid (EventsAt.below HT.out HB1.out)
  generalize (((w.alloc (.cells #[.int .i64 (n : Int), .int .i64 cs, .int .i64 cy, .int .i64 cb] 42)).later l1 d1).later l2 d2).later l3 d3 = W1 at *
  clear HCA HT HC HL
  go_loopw [9, 11, 52] (Rel1 ts n W1) (fun _ _ i _ => n - (intOf i).toNat)
  case atStart => exact ⟨0, #[], _, Nat.zero_le _, rfl, rfl, rfl, later_zero _⟩
  case round =>
    obtain ⟨k, l, d, hk, rfl, rfl, rfl, rfl⟩ := hrel
    by_cases hlt : k < n
    · have hx := cntsL_get hlt ts
      obtain ⟨bo, offo, rfl⟩ := CountsAt.form HCA1.out hx
      obtain ⟨e0, e1, e2, e3, e4⟩ := CountsAt.at HCA1.out hx
      have hin : inB W1 bo := lt_of_cell e0
      have q0 := cnt_bd k ts 0
      have q1 := cnt_bd k ts 1
      have q2 := cnt_bd k ts 2
      have q3 := cnt_bd k ts 3
      have q4 := cnt_bd k ts 4
      simp only [C5.nth] at q0 q1 q2 q3 q4
      have b9 := sumTo_bd (f := fun k => fourK k ts) (B := 800) k (fun i _ => by have := four_bd i ts; omega)
      have b11 := sumTo_bd (f := fun k => (cntL k ts).e) (B := 200) k (fun i _ => by have := cnt_bd i ts 4; simp only [C5.nth] at this; omega)
      have HS9 : Hid (sumTo (fun k => fourK k ts) (k + 1) = sumTo (fun k => fourK k ts) k + ((cntL k ts).a + (cntL k ts).b + (cntL k ts).c + (cntL k ts).d)) := Lib.hid rfl
      have HS11 : Hid (sumTo (fun k => (cntL k ts).e) (k + 1) = sumTo (fun k => (cntL k ts).e) k + (cntL k ts).e) := Lib.hid rfl
      generalize sumTo (fun k => fourK k ts) k = S9 at *
      generalize sumTo (fun k => (cntL k ts).e) k = S11 at *
      generalize cntL k ts = C at *
      obtain ⟨ca, cb2, cc, cd, ce⟩ := C
      simp only at e0 e1 e2 e3 e4 q0 q1 q2 q3 q4 HS9 HS11
      clear hx hk
      go_wp2_with (fail)
      exact ⟨⟨k + 1, _, _, hlt, by go_num, by rw [HS9.out], by rw [HS11.out], later_alloc _ _ _ _⟩, by simp [intOf]; omega⟩
    · obtain rfl : k = n := by omega
      rw [HS4.out, HSB.out, HM.out]
      clear hlt hk
      go_wp2_with (fail)
      go_loopw [10, 76] (Rel2 ts k (W1.later l d)) (fun _ i _ => k - (intOf i).toNat)
      case atStart => exact ⟨0, #[], _, Nat.zero_le _, rfl, rfl, later_zero _⟩
      case round =>
        obtain ⟨j, l', d', hj, rfl, rfl, rfl⟩ := hrel
        by_cases hlt : j < k
        · have hsg := logsL_get hlt ts
          obtain ⟨bs, offs, rfl⟩ := ListsAt.form HLA.out hsg
          obtain ⟨sa, sqc, scell, sq1, sq2, sq3, sq4⟩ := ListsAt.at HLA.out hsg
          have hin4 : inB W1 bs := lt_of_cell scell
          have hnl := nodeT_len j ts
          have b10 := sumTo_bd (f := fun k => (((nodeT k ts).length : Nat) : Int)) (B := 200) j (fun i _ => by have := nodeT_len i ts; omega)
          have HS10 : Hid (sumTo (fun k => (((nodeT k ts).length : Nat) : Int)) (j + 1) = sumTo (fun k => (((nodeT k ts).length : Nat) : Int)) j + (((nodeT j ts).length : Nat) : Int)) := Lib.hid rfl
          generalize sumTo (fun k => (((nodeT k ts).length : Nat) : Int)) j = S10 at *
          generalize (nodeT j ts).length = NL at *
          have hnl2 : NL ≤ 200 := by omega
          unfold maxLen at sq2
          clear hsg sq3 sq4 hj hnl
          go_wp2_with (fail)
          exact ⟨⟨j + 1, _, _, hlt, by go_num, by rw [HS10.out], rfl⟩, by simp [intOf]; omega⟩
        · obtain rfl : j = k := by omega
          rw [HSL.out, HM.out]
          clear hlt hj
          go_wp2_with (fail)
          rw [later_later]
          go_loopw [12, 87] (Rel3 ts W1) (fun _ i _ => m - (intOf i).toNat)
          case atStart => exact ⟨0, _, _, Nat.zero_le _, rfl, rfl, rfl⟩
          case round =>
            obtain ⟨i, l2, d2, hi, rfl, rfl, rfl⟩ := hrel
            by_cases hlt : i < m
            · obtain ⟨y, hy⟩ := get_some (xs := ts) (k := i) (by rw [HM.out]; exact hlt)
              obtain ⟨bq, offq, rfl⟩ := EventsAt.form HT1.out hy
              obtain ⟨e0, e1, e2, e3, e4, e5⟩ := EventsAt.at HT1.out hy
              have hin3 : inB W1 bq := lt_of_cell e0
              have HJ : Hid (i + 1 ≤ ts.length) := Lib.hid (by rw [HM.out]; exact hlt)
              have HW : Hid (wantL (ts.take (i + 1)) = wantL (ts.take i) + if y.b = true then 1 else 0) := Lib.hid (by rw [List.take_add_one, hy]; exact wantL_snoc _ _)
              have hb := want_bd (ts.take i)
              have htl : (ts.take i).length ≤ 200 := by rw [List.length_take]; omega
              generalize wantL (ts.take i) = S at *
              have hS0 : 0 ≤ S := hb.1
              have hS1 : S ≤ 200 := by omega
              obtain ⟨⟨yn, yk, ya, yv⟩, yu, yb⟩ := y
              simp only at e0 e1 e2 e3 e4 e5 HW
              clear hy hi hb htl
              obtain rfl | rfl : yb = true ∨ yb = false := by cases yb <;> simp
              all_goals
                go_wp2_with (fail)
                exact ⟨⟨i + 1, _, _, HJ.out, by go_num, by rw [HW.out]; simp, later_alloc _ _ _ _⟩, by simp [intOf]; omega⟩
            · obtain rfl : i = m := by have := HM.out; omega
              have htk : ts.take i = ts := List.take_of_length_le (by rw [HM.out]; exact Nat.le_refl _)
              rw [htk]
              have hw := want_bd ts
              rw [HM.out] at hw
              generalize wantL ts = S at *
              have hSS : (S == S) = true := by simp
              have hii : ((i : Int) == (i : Int)) = true := by simp
              clear htk hlt hi
              go_wp2_with (fail)
              go_ret
              exact ⟨rfl, below_trans HB1.out (by repeat (first | exact Below.refl _ _ | apply bs_later | apply bs_alloc | apply bs_drew | apply bs_drewN))⟩

theorem walk {H : Type} {enc : TypeId × Value → H} {dd1 : DataW H} {pp1 : List MemPlace} (cn cs cy cb : Int) (a : Option Addr) (n c : Nat) (w : World)
    (wn : (Lit.int .i64 cn).wf = true) (ws : (Lit.int .i64 cs).wf = true) (wy : (Lit.int .i64 cy).wf = true) (wb : (Lit.int .i64 cb).wf = true)
    (k1 : DataW.Trod enc Try.prog w 0 (fun _ => true) true 43 (.slice a n c) dd1 pp1) :
    Calls Try.prog 4 #[.agg #[.int .i64 cn, .int .i64 cs, .int .i64 cy, .int .i64 cb], .slice a n c] w (Ret (.bool true) w) := by
  obtain ⟨h1, h2, _, ts, hd, hT, _⟩ := open_events (m := 6) Try.underlying43 (by kernel_rfl) (by kernel_rfl) k1
  by_cases h0 : tallyE cn cs cy cb ts = 0
  · exact walk_ok cn cs cy cb ts a n c w hd (Nat.le_trans h1 h2) hT h0
  · exact walk_bad cn cs cy cb ts a n c w hd (Nat.le_trans h1 h2) hT h0

-- the frame, by program
set_option maxRecDepth 100000 in
theorem lifted (os : Os) (started : os.Started) (H : Type) (enc : TypeId × Value → H) :
    ReturnsInHanded {} Try.checked os 4 .any (Rows.tallyCountsSpec.pre6 enc Try.prog Try.f4 Rows.tallyCountsRow.domain false) (Rows.tallyCountsSpec.post enc Try.prog Try.f4 false true false false) := by
  refine returnsInHanded_of_change (C := Try.checked) own started (by kernel_rfl) Try.func4
    (ChangeSpec.witness6 (enc := enc) (C := Try.checked) false ⟨#[], #[.agg #[.int .i64 0, .int .i64 0, .int .i64 0, .int .i64 0], .slice none 0 0], []⟩ 8 (by kernel_rfl) (by kernel_rfl) (by kernel_rfl) (by kernel_rfl)) ?_
  intro W base args ds gs before hval0 hW hcnd _
  have hval : ∀ (j : Nat) t v, Try.f4.params[j]? = some t → args[j]? = some v → Value.okWide Try.prog W .any base t v := hval0
  have hW' := hW
  obtain ⟨p, q, hA0, hV, rfl, hfz, hnd⟩ := hW
  have hA : DataW.TrodAll enc Try.prog W 0 (fun _ => true) true Try.f4.params.toList args.toList ds p := hA0
  rw [Try.params4] at hA hval
  obtain ⟨v0, vs0, d0, ds0, p0, q0, hargs, rfl, rfl, h0, r0⟩ := trodAll_cons hA
  obtain ⟨v1, vs1, d1, ds1, p1, q1, rfl, rfl, rfl, h1, r1⟩ := trodAll_cons r0
  obtain ⟨rfl, rfl, rfl⟩ := trodAll_nil r1
  obtain rfl : args = #[v0, v1] := by cases args; simp_all
  obtain ⟨rfl, rfl⟩ := trodVars_none hV
  have k0 := h0
  have lt0 : ∀ x ∈ p0, x.block < W.heap.size := by obtain ⟨m, hm⟩ := k0; exact DataW.trod_lt m _ _ _ hm
  have k1 := h1
  have lt1 : ∀ x ∈ p1, x.block < W.heap.size := by obtain ⟨m, hm⟩ := k1; exact DataW.trod_lt m _ _ _ hm
  obtain ⟨cs0, rfl, al0⟩ := open_flat (n := 4) [.int .i64, .int .i64, .int .i64, .int .i64] (by kernel_rfl) (by kernel_rfl) (.inl ⟨_, Try.underlying42⟩) (hval 0 42 v0 rfl rfl) h0
  obtain ⟨a0x, a0y, a0z, a0u, rfl, w0x, w0y, w0z, w0u⟩ := all2_cfg al0
  obtain ⟨a1, len1, cap1, rfl⟩ := okWide_slice Try.underlying43 (hval 1 43 v1 rfl rfl)
  clear hA0 hval0
  refine (walk a0x a0y a0z a0u a1 len1 cap1 W w0x w0y w0z w0u k1).mono fun e W' ⟨he, bel⟩ => ?_
  subst he
  exact ⟨_, rfl, _, _, _, [], _, [], hW', trodAll_mk1 (shut_bool Try.underlying4 _), (trodAll_cons_mk (Below.trod laidOut (by kernel_rfl) (of_decide_eq_true (by kernel_rfl)) k0 bel lt0) (trodAll_cons_mk (Below.trod laidOut (by kernel_rfl) (of_decide_eq_true (by kernel_rfl)) k1 bel lt1) trodAll_mk0)), rfl, bel.frame _, fun h => by cases h⟩

theorem over : Rows.tallyCountsRow.holds Try.pinned (OpenSpec.ofChange Rows.tallyCountsSpec) :=
  OpenClaim.holds_of_wide 4 Try.f4 rfl rfl rfl rfl rfl rfl rfl ⟨rfl, rfl, rfl, rfl, rfl⟩ rfl rfl rfl rfl rfl (by kernel_rfl) Try.func4 (by kernel_rfl)
    (of_decide_eq_true (by kernel_rfl)) (by unfold Func.isWrapper; first | (rw [if_pos (by decide +kernel)]; kernel_rfl) | (rw [if_neg (by decide +kernel)]; exact ⟨rfl, rfl⟩))
    (fun os started H enc _ => lifted os started H enc)

theorem proved : Rows.TallyCountsSaid := over

end Go.Proofs.Ytffhfpdmfegcpab.tallyCounts
