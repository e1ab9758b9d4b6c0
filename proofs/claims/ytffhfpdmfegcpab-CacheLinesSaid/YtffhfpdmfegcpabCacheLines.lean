/- ringdovekeep.CacheLines: for every config and every cache, the call returns true. -/
import Derived.Test.YtffhfpdmfegcpabLinesLaw
import Derived.Test.YtffhfpdmfegcpabCacheNew
import Derived.Test.YtffhfpdmfegcpabKnob
namespace Go.Proofs.Ytffhfpdmfegcpab.cacheLines
open Go.ChangeShapes Go.WideShapes Go.ChangeAt Go.RowKit
open Go.Proofs.Ytffhfpdmfegcpab.base Go.Proofs.Ytffhfpdmfegcpab.knob Go.Proofs.Ytffhfpdmfegcpab.flat Go.Proofs.Ytffhfpdmfegcpab.table Go.Proofs.Ytffhfpdmfegcpab.prog Go.Proofs.Ytffhfpdmfegcpab.same Go.Proofs.Ytffhfpdmfegcpab.addr Go.Proofs.Ytffhfpdmfegcpab.ways Go.Proofs.Ytffhfpdmfegcpab.cacheNew
set_option linter.unusedVariables false
set_option linter.unusedSimpArgs false

theorem below_trans {W0 w w' : World} (h : Below W0.heap.size W0 w) (hb : Below w.heap.size w w') : Below W0.heap.size W0 w' := by
  obtain ⟨l, d, rfl⟩ := later_of hb
  exact bs_later h l d
set_option maxHeartbeats 1000000 in
set_option maxRecDepth 100000 in
theorem eqTest_no (x : W6) (L : Int) (hne : ¬ x.l = L) (g : Nat) (w : World) (hk : w.cell? ⟨g, 1, none⟩ = some (.int .i64 L)) :
    Calls Try.prog 43 #[.agg #[.int .i64 x.s, .int .i64 x.l, .int .u64 x.a, .int .u64 x.b, .int .u64 x.c, .int .u64 x.d], .pointer (some ⟨g, 0, none⟩)] w (Ret (.bool false) w) := by
  have hin : inB w g := lt_of_cell hk
  have hb : (x.l == L) = false := by simpa using hne
  obtain ⟨xs, xl, xa, xb, xc, xd⟩ := x
  simp only at hb
  clear hne
  go_enter Try.func43, Try.ntmps43
  go_wp2
  go_ret
  exact ⟨rfl, (by repeat (first | exact Below.refl _ _ | apply bs_later | apply bs_alloc | apply bs_drew | apply bs_drewN))⟩
def RelB (n : Nat) (W1 : World) (i : Value) (wr : World) : Prop := ∃ k : Nat, k ≤ n ∧ i = .int .i64 k ∧ Below W1.heap.size W1 wr
set_option maxHeartbeats 1000000 in
set_option maxRecDepth 100000 in
theorem idxEq_no (L : Int) (ws : List W6) (hws : ∀ x ∈ ws, ¬ x.l = L) (a : Option Addr) (n c g : Nat) (w : World) (hn : ws.length = n) (hm : n ≤ maxLen) (hL : WaysAt w a ws) (hk : w.cell? ⟨g, 1, none⟩ = some (.int .i64 L)) :
    Calls Try.prog 75 #[.slice a n c, .func (.func 43) #[] #[.pointer (some ⟨g, 0, none⟩)]] w (Ret (.int .i64 (-1)) w) := by
  have HLL := Lib.hid hL
  have HNL := Lib.hid hn
  have HWS := Lib.hid hws
  have hin : inB w g := lt_of_cell hk
  unfold maxLen at hm
  clear hL hn hws
  go_enter Try.func75, Try.ntmps75
  go_wp2
  go_loopw [8] (RelB n w) (fun i _ => n - (intOf i).toNat)
  case atStart => exact ⟨0, Nat.zero_le _, rfl, Below.refl _ _⟩
  case round =>
    obtain ⟨j, hj, rfl, hb⟩ := hrel
    obtain ⟨l, d, rfl⟩ := later_of hb
    clear hb
    by_cases hlt : j < n
    · obtain ⟨x, hx⟩ := get_some (xs := ws) (k := j) (by rw [HNL.out]; exact hlt)
      obtain ⟨b, off, rfl⟩ := WaysAt.form HLL.out hx
      obtain ⟨e0, e1, e2, e3, e4, e5⟩ := WaysAt.at HLL.out hx
      have hin3 : inB w b := lt_of_cell e0
      have HD := Lib.hid fun w h => eqTest_no x L (HWS.out x (List.mem_of_getElem? hx)) g w h
      obtain ⟨xs, xl, xa, xb, xc, xd⟩ := x
      simp only at e0 e1 e2 e3 e4 e5
      clear hx hj
      go_wp2_with (go_at_call 43; refine (HD.out _ ?hc).mono ?_; (case hc => go_simp); rintro e w1 ⟨rfl, hb1⟩; obtain ⟨l1, d1, rfl⟩ := later_of hb1; clear hb1)
      exact ⟨⟨j + 1, hlt, by go_num, (by repeat (first | exact Below.refl _ _ | apply bs_later | apply bs_alloc | apply bs_drew | apply bs_drewN))⟩, by simp [intOf]; omega⟩
    · obtain rfl : j = n := by omega
      go_wp2
      go_ret
      exact ⟨rfl, (by repeat (first | exact Below.refl _ _ | apply bs_later | apply bs_alloc | apply bs_drew | apply bs_drewN))⟩
set_option maxRecDepth 100000 in
theorem containsEq_no (L : Int) (ws : List W6) (hws : ∀ x ∈ ws, ¬ x.l = L) (a : Option Addr) (n c g : Nat) (w : World) (hn : ws.length = n) (hm : n ≤ maxLen) (hL : WaysAt w a ws) (hk : w.cell? ⟨g, 1, none⟩ = some (.int .i64 L)) :
    Calls Try.prog 42 #[.slice a n c, .func (.func 43) #[] #[.pointer (some ⟨g, 0, none⟩)]] w (Ret (.bool false) w) := by
  have HI := Lib.hid (idxEq_no L ws hws a n c g w hn hm hL hk)
  clear hL hk hn hws
  go_enter Try.func42, Try.ntmps42
  go_wp2_with (go_at_call 75; refine HI.out.mono ?_; rintro e w1 ⟨rfl, hb1⟩; obtain ⟨l1, d1, rfl⟩ := later_of hb1; clear hb1)
  go_ret
  exact ⟨rfl, (by repeat (first | exact Below.refl _ _ | apply bs_later | apply bs_alloc | apply bs_drew | apply bs_drewN))⟩

set_option maxHeartbeats 1000000 in
set_option maxRecDepth 100000 in
theorem walk_bad (cn cs cy cb : Int) (rs : List R4) (hrs : ∀ r ∈ rs, r.Ok) (a : Option Addr) (n c : Nat) (w : World) (hn : rs.length = n) (hm : n ≤ maxLen) (hH : CacheAt w a rs) (h0 : ¬ cacheE cn cs cy cb rs = 0) :
    Calls Try.prog 8 #[.agg #[.int .i64 cn, .int .i64 cs, .int .i64 cy, .int .i64 cb], .slice a n c] w (Ret (.bool true) w) := by
  have HL := Lib.hid (fun w h => lines_bad cn cs cy cb rs hrs a n c w hn hm h h0)
  have HH := Lib.hid hH
  generalize cacheE cn cs cy cb rs = E at *
  have hE : (E != 0) = true := by simpa using h0
  clear h0 hn hH hrs
  go_enter Try.func8, Try.ntmps8
  go_wp2_with (first
    | (go_at_call 39; refine (caches_any _).mono ?_; rintro e w1 ⟨rfl, hb1⟩; obtain ⟨l1, d1, rfl⟩ := later_of hb1; clear hb1)
    | (go_at_call 40; refine (HL.out _ (CacheAt.below HH.out (by repeat (first | exact Below.refl _ _ | apply bs_later | apply bs_alloc | apply bs_drew | apply bs_drewN)))).mono ?_; rintro e w1 ⟨rfl, hb1⟩; obtain ⟨l2, d2, rfl⟩ := later_of hb1; clear hb1))
  go_ret
  exact ⟨rfl, (by repeat (first | exact Below.refl _ _ | apply bs_later | apply bs_alloc | apply bs_drew | apply bs_drewN))⟩
set_option maxHeartbeats 4000000 in
set_option maxRecDepth 100000 in
theorem walk_ok (cn cs cy cb : Int) (rs : List R4) (hrs : ∀ r ∈ rs, r.Ok) (a : Option Addr) (n c : Nat) (w : World) (hn : rs.length = n) (hm : n ≤ maxLen) (hH : CacheAt w a rs) (h0 : cacheE cn cs cy cb rs = 0) :
    Calls Try.prog 8 #[.agg #[.int .i64 cn, .int .i64 cs, .int .i64 cy, .int .i64 cb], .slice a n c] w (Ret (.bool true) w) := by
  have HL := Lib.hid (fun w h => lines_ok cn cs cy cb rs hrs a n c w hn hm h h0)
  have hc := (cacheE_ok h0).1
  have hcs : 1 ≤ cs ∧ cs ≤ 4 := ⟨hc.2.2.1, hc.2.2.2.1⟩
  have hcy : 1 ≤ cy ∧ cy ≤ 4 := ⟨hc.2.2.2.2.2.1, hc.2.2.2.2.2.2.1⟩
  have hmost := lines_most h0
  have HMOST := Lib.hid hmost
  have HLA := Lib.hid (fun x hx => line_at h0 (x := x) hx)
  have HLN := Lib.hid (fun i x hx => line_new h0 (i := i) (x := x) hx)
  have HLO := Lib.hid (lines_ok_mem hrs)
  have HFI : Hid (∀ (L : Int) (w : World), CacheAt w a rs → 0 ≤ L ∧ L ≤ 15 → ∀ (i : Nat) (r : R4), L % cs = i → rs[i]? = some r → ∀ (k : Nat) (x : W6), findW L r.ways = k → r.ways[k]? = some x → Calls Try.prog 41 #[.agg #[.int .i64 cn, .int .i64 cs, .int .i64 cy, .int .i64 cb], .slice a n c, .int .i64 L] w (Ret (.tuple #[.agg #[.int .i64 x.s, .int .i64 x.l, .int .u64 x.a, .int .u64 x.b, .int .u64 x.c, .int .u64 x.d], .bool true, .int .i64 0]) w)) := Lib.hid fun L w h hL i r hi hr k x hf hx => cacheFind_yes cn cs cy cb rs hrs L a n c w hn hm h h0 hL i r hi hr k x hf hx
  have HH := Lib.hid hH
  have HCS := Lib.hid hcs
  have HCY := Lib.hid hcy
  clear h0 hn hH hrs hc hmost hcs hcy hm
  go_enter Try.func8, Try.ntmps8
  go_wp2_with (first
    | (go_at_call 39; refine (caches_any _).mono ?_; rintro e w1 ⟨rfl, hb1⟩; obtain ⟨l1, d1, rfl⟩ := later_of hb1; clear hb1)
    | (go_at_call 40; refine (HL.out _ (CacheAt.below HH.out (by repeat (first | exact Below.refl _ _ | apply bs_later | apply bs_alloc | apply bs_drew | apply bs_drewN)))).mono ?_; rintro e w1 ⟨ao, co, rfl, hcap, hwa, hb1⟩; obtain ⟨l2, d2, rfl⟩ := later_of hb1; clear hb1; have HWA := Lib.hid hwa; clear hwa))
  have HB1 : Hid (Below w.heap.size w (((w.alloc (.cells #[.int .i64 cn, .int .i64 cs, .int .i64 cy, .int .i64 cb] 42)).later l1 d1).later l2 d2)) := Lib.hid (by repeat (first | exact Below.refl _ _ | apply bs_later | apply bs_alloc | apply bs_drew | apply bs_drewN))
  have HH1 := Lib.hid (CacheAt.below HH.out HB1.out)
  have g0 : (((w.alloc (.cells #[.int .i64 cn, .int .i64 cs, .int .i64 cy, .int .i64 cb] 42)).later l1 d1).later l2 d2).cell? ⟨w.heap.size, 0, none⟩ = some (.int .i64 cn) := by go_simp
  have g1 : (((w.alloc (.cells #[.int .i64 cn, .int .i64 cs, .int .i64 cy, .int .i64 cb] 42)).later l1 d1).later l2 d2).cell? ⟨w.heap.size, 1, none⟩ = some (.int .i64 cs) := by go_simp
  have g2 : (((w.alloc (.cells #[.int .i64 cn, .int .i64 cs, .int .i64 cy, .int .i64 cb] 42)).later l1 d1).later l2 d2).cell? ⟨w.heap.size, 2, none⟩ = some (.int .i64 cy) := by go_simp
  have g3 : (((w.alloc (.cells #[.int .i64 cn, .int .i64 cs, .int .i64 cy, .int .i64 cb] 42)).later l1 d1).later l2 d2).cell? ⟨w.heap.size, 3, none⟩ = some (.int .i64 cb) := by go_simp
  generalize ((w.alloc (.cells #[.int .i64 cn, .int .i64 cs, .int .i64 cy, .int .i64 cb] 42)).later l1 d1).later l2 d2 = W1 at *
  have ig : inB W1 w.heap.size := lt_of_cell g0
  generalize hM : linesW rs = M at *
  obtain ⟨ln, hln⟩ : ∃ ln, M.length = ln := ⟨_, rfl⟩
  rw [hln] at hcap HMOST ⊢
  have HLE := Lib.hid hln
  obtain ⟨hco, hco2⟩ := hcap
  unfold maxLen at hco2
  clear hln hM HL HH
  go_loopw [27] (RelB ln W1) (fun i _ => ln - (intOf i).toNat)
  case atStart => exact ⟨0, Nat.zero_le _, rfl, Below.refl _ _⟩
  case round =>
    obtain ⟨j, hj, rfl, hb⟩ := hrel
    obtain ⟨l, d, rfl⟩ := later_of hb
    clear hb
    by_cases hlt : j < ln
    · obtain ⟨x, hx⟩ := get_some (xs := M) (k := j) (by rw [HLE.out]; exact hlt)
      obtain ⟨b, off, rfl⟩ := WaysAt.form HWA.out hx
      obtain ⟨e0, e1, e2, e3, e4, e5⟩ := WaysAt.at HWA.out hx
      have hin3 : inB W1 b := lt_of_cell e0
      obtain ⟨i, k, r, hL, hi, hr, hf, hk⟩ := HLA.out x (List.mem_of_getElem? hx)
      have HF := Lib.hid (fun w h => HFI.out x.l w h hL i r hi hr k x hf hk)
      have hnew := HLN.out j x hx
      have hxo := HLO.out x (List.mem_of_getElem? hx)
      have HCN := Lib.hid (fun g w h1 h2 => containsEq_no x.l (M.take j) hnew (some ⟨b, off, none⟩) j co g w (by rw [List.length_take, HLE.out]; omega) (by unfold maxLen; omega) h1 h2)
      have HTK := Lib.hid (WaysAt.take HWA.out j)
      have hq : ∀ w, (Op.equalIn 10000 92 (.agg #[.int .i64 x.s, .int .i64 x.l, .int .u64 x.a, .int .u64 x.b, .int .u64 x.c, .int .u64 x.d]) (.agg #[.int .i64 x.s, .int .i64 x.l, .int .u64 x.a, .int .u64 x.b, .int .u64 x.c, .int .u64 x.d])).run Try.prog w = .ok true w := fun w => by
        have h := run_eq_way w hxo hxo
        rw [eqv_true rfl] at h
        exact h
      have hjc : j ≤ co := by omega
      have hjI : (j : Int) ≤ co := by omega
      obtain ⟨xs, xl, xa, xb, xc, xd⟩ := x
      simp only at e0 e1 e2 e3 e4 e5 HF HCN hq
      clear hx hL hi hr hf hk hnew hxo hj
      go_wp2_with (first
        | (go_at_call 41; refine (HF.out _ (CacheAt.below HH1.out (by repeat (first | exact Below.refl _ _ | apply bs_later | apply bs_alloc | apply bs_drew | apply bs_drewN)))).mono ?_; rintro e w1 ⟨rfl, hb1⟩; obtain ⟨l3, d3, rfl⟩ := later_of hb1; clear hb1)
        | (go_at_call 42; refine (HCN.out _ _ (WaysAt.below HTK.out (by repeat (first | exact Below.refl _ _ | apply bs_later | apply bs_alloc | apply bs_drew | apply bs_drewN))) ?o1).mono ?_; (case o1 => go_simp); rintro e w1 ⟨rfl, hb1⟩; obtain ⟨l4, d4, rfl⟩ := later_of hb1; clear hb1))
      exact ⟨⟨j + 1, hlt, by go_num, (by repeat (first | exact Below.refl _ _ | apply bs_later | apply bs_alloc | apply bs_drew | apply bs_drewN))⟩, by simp [intOf]; omega⟩
    · obtain rfl : j = ln := by omega
      have hmost := HMOST.out
      have hcs := HCS.out
      have hcy := HCY.out
      have e1 : cs = 1 ∨ cs = 2 ∨ cs = 3 ∨ cs = 4 := by omega
      have e2 : cy = 1 ∨ cy = 2 ∨ cy = 3 ∨ cy = 4 := by omega
      have hmul : 0 ≤ cs * cy ∧ cs * cy ≤ 16 := by rcases e1 with rfl | rfl | rfl | rfl <;> rcases e2 with rfl | rfl | rfl | rfl <;> decide
      obtain ⟨hm0, hm16⟩ := hmul
      clear e1 e2 hcs hcy HMOST HCS HCY
      go_wp2
      go_ret
      exact ⟨rfl, below_trans HB1.out (by repeat (first | exact Below.refl _ _ | apply bs_later | apply bs_alloc | apply bs_drew | apply bs_drewN))⟩

theorem walk {H : Type} {enc : TypeId × Value → H} {dd1 : DataW H} {pp1 : List MemPlace} (cn cs cy cb : Int) (a : Option Addr) (n c : Nat) (w : World)
    (wn : (Lit.int .i64 cn).wf = true) (ws : (Lit.int .i64 cs).wf = true) (wy : (Lit.int .i64 cy).wf = true) (wb : (Lit.int .i64 cb).wf = true)
    (k1 : DataW.Trod enc Try.prog w 0 (fun _ => true) true 86 (.slice a n c) dd1 pp1) :
    Calls Try.prog 8 #[.agg #[.int .i64 cn, .int .i64 cs, .int .i64 cy, .int .i64 cb], .slice a n c] w (Ret (.bool true) w) := by
  obtain ⟨h1, h2, _, rs, hn, hH, hrs⟩ := open_cache (m := 4) (k := 4) Try.underlying86 (by kernel_rfl) (by kernel_rfl) Try.underlying87 (by kernel_rfl) (by kernel_rfl) k1
  by_cases h0 : cacheE cn cs cy cb rs = 0
  · exact walk_ok cn cs cy cb rs hrs a n c w hn (Nat.le_trans h1 h2) hH h0
  · exact walk_bad cn cs cy cb rs hrs a n c w hn (Nat.le_trans h1 h2) hH h0

-- the frame, by program
set_option maxRecDepth 100000 in
theorem lifted (os : Os) (started : os.Started) (H : Type) (enc : TypeId × Value → H) :
    ReturnsInHanded {} Try.checked os 8 .any (Rows.cacheLinesSpec.pre6 enc Try.prog Try.f8 Rows.cacheLinesRow.domain false) (Rows.cacheLinesSpec.post enc Try.prog Try.f8 false true false false) := by
  refine returnsInHanded_of_change (C := Try.checked) own started (by kernel_rfl) Try.func8
    (ChangeSpec.witness6 (enc := enc) (C := Try.checked) false ⟨#[], #[.agg #[.int .i64 0, .int .i64 0, .int .i64 0, .int .i64 0], .slice none 0 0], []⟩ 8 (by kernel_rfl) (by kernel_rfl) (by kernel_rfl) (by kernel_rfl)) ?_
  intro W base args ds gs before hval0 hW hcnd _
  have hval : ∀ (j : Nat) t v, Try.f8.params[j]? = some t → args[j]? = some v → Value.okWide Try.prog W .any base t v := hval0
  have hW' := hW
  obtain ⟨p, q, hA0, hV, rfl, hfz, hnd⟩ := hW
  have hA : DataW.TrodAll enc Try.prog W 0 (fun _ => true) true Try.f8.params.toList args.toList ds p := hA0
  rw [Try.params8] at hA hval
  obtain ⟨v0, vs0, d0, ds0, p0, q0, hargs, rfl, rfl, h0, r0⟩ := trodAll_cons hA
  obtain ⟨v1, vs1, d1, ds1, p1, q1, rfl, rfl, rfl, h1, r1⟩ := trodAll_cons r0
  obtain ⟨rfl, rfl, rfl⟩ := trodAll_nil r1
  obtain rfl : args = #[v0, v1] := by cases args; simp_all
  obtain ⟨rfl, rfl⟩ := trodVars_none hV
  have k0 := h0
  have lt0 : ∀ x ∈ p0, x.block < W.heap.size := by obtain ⟨m, hm⟩ := k0; exact DataW.trod_lt m _ _ _ hm
  have k1 := h1
  have lt1 : ∀ x ∈ p1, x.block < W.heap.size := by obtain ⟨m, hm⟩ := k1; exact DataW.trod_lt m _ _ _ hm
  obtain ⟨cs0, rfl, al0⟩ := open_flat (n := 4) [.int .i64, .int .i64, .int .i64, .int .i64] (by kernel_rfl) (by kernel_rfl) (.inl ⟨_, Try.underlying42⟩) (hval 0 42 v0 rfl rfl) h0
  obtain ⟨a0x, a0y, a0z, a0u, rfl, w0x, w0y, w0z, w0u⟩ := all2_cfg al0
  obtain ⟨a1, len1, cap1, rfl⟩ := okWide_slice Try.underlying86 (hval 1 86 v1 rfl rfl)
  clear hA0 hval0
  refine (walk a0x a0y a0z a0u a1 len1 cap1 W w0x w0y w0z w0u k1).mono fun e W' ⟨he, bel⟩ => ?_
  subst he
  exact ⟨_, rfl, _, _, _, [], _, [], hW', trodAll_mk1 (shut_bool Try.underlying4 _), (trodAll_cons_mk (Below.trod laidOut (by kernel_rfl) (of_decide_eq_true (by kernel_rfl)) k0 bel lt0) (trodAll_cons_mk (Below.trod laidOut (by kernel_rfl) (of_decide_eq_true (by kernel_rfl)) k1 bel lt1) trodAll_mk0)), rfl, bel.frame _, fun h => by cases h⟩

theorem over : Rows.cacheLinesRow.holds Try.pinned (OpenSpec.ofChange Rows.cacheLinesSpec) :=
  OpenClaim.holds_of_wide 8 Try.f8 rfl rfl rfl rfl rfl rfl rfl ⟨rfl, rfl, rfl, rfl, rfl⟩ rfl rfl rfl rfl rfl (by kernel_rfl) Try.func8 (by kernel_rfl)
    (of_decide_eq_true (by kernel_rfl)) (by unfold Func.isWrapper; first | (rw [if_pos (by decide +kernel)]; kernel_rfl) | (rw [if_neg (by decide +kernel)]; exact ⟨rfl, rfl⟩))
    (fun os started H enc _ => lifted os started H enc)

theorem proved : Rows.CacheLinesSaid := over

end Go.Proofs.Ytffhfpdmfegcpab.cacheLines
