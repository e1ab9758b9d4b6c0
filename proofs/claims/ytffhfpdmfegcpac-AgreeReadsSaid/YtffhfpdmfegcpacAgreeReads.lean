/- ringdovekeep.AgreeReads: for every configuration, every world and every line, the law's call returns true. -/
import Derived.Test.YtffhfpdmfegcpacAgreePlain
import Derived.Test.YtffhfpdmfegcpacAgreeNew
import Derived.Test.YtffhfpdmfegcpacContains
import Derived.Test.YtffhfpdmfegcpacKnob
namespace Go.Proofs.Ytffhfpdmfegcpac.agreeReads
open Go.ChangeShapes Go.WideShapes Go.ChangeAt Go.RowKit
open Go.ChangeMaps (open_string shut_string)
open Go.Joins (ownsRow_le)
open Go.Proofs.Ytffhfpdmfegcpac.base Go.Proofs.Ytffhfpdmfegcpac.knob Go.Proofs.Ytffhfpdmfegcpac.flat Go.Proofs.Ytffhfpdmfegcpac.table Go.Proofs.Ytffhfpdmfegcpac.prog Go.Proofs.Ytffhfpdmfegcpac.same Go.Proofs.Ytffhfpdmfegcpac.addr Go.Proofs.Ytffhfpdmfegcpac.bank Go.Proofs.Ytffhfpdmfegcpac.ways Go.Proofs.Ytffhfpdmfegcpac.state Go.Proofs.Ytffhfpdmfegcpac.turn Go.Proofs.Ytffhfpdmfegcpac.bankMore Go.Proofs.Ytffhfpdmfegcpac.memEq Go.Proofs.Ytffhfpdmfegcpac.agree Go.Proofs.Ytffhfpdmfegcpac.atomic
set_option linter.unusedVariables false
set_option linter.unusedSimpArgs false

def RelR (cs : Int) (hs : List (List R4)) (L : Nat) (w0 : World) (v i : Value) (wr : World) : Prop :=
  ∃ (k : Nat) (o : Array Obj) (d : Nat), k ≤ hs.length ∧ v = .int .i64 (writesL (holdL cs (hs.take k) L) : Int) ∧ i = .int .i64 k ∧ wr = w0.later o d
theorem later_mid2 (w : World) (o : Array Obj) (d : Nat) (o' : Array Obj) (d' : Nat) (x : Obj) (o2 : Array Obj) (d2 : Nat) : (((w.later o d).later o' d').alloc x).later o2 d2 = w.later ((o ++ o').push x ++ o2) d2 := by
  rw [later_later, later_alloc, later_later]
theorem same0 : ∀ w : World, (Op.equalIn 10000 24 (.agg #[.int .u64 0, .int .u64 0, .int .u64 0, .int .u64 0]) (.agg #[.int .u64 0, .int .u64 0, .int .u64 0, .int .u64 0])).run Try.prog w = .ok true w := fun w => words.run_same_line w 0 0 0 0 words.wf_zero words.wf_zero words.wf_zero words.wf_zero

set_option maxHeartbeats 8000000 in
set_option maxRecDepth 100000 in
theorem walk_bad (cn cs cy cb : Int) (xs : List Int) (hxl : xs.length = 64) (wx : AllU xs) (hs : List (List R4)) (hok : ∀ h ∈ hs, ∀ r ∈ h, r.Ok) (ca : Option Addr) (n cc : Nat) (w : World) (hn : hs.length = n) (hm : n ≤ maxLen) (hH : CachesAt w ca hs) (L : Int) (hE : ¬ askE cn cs cy cb hs xs L = 0) :
    Calls Try.prog 5 #[.agg #[.int .i64 cn, .int .i64 cs, .int .i64 cy, .int .i64 cb], .agg (worldA ca n cc xs), .int .i64 L] w (Ret (.bool true) w) := by
  have PV := fun w h => val_bad cn cs cy cb xs hxl wx hs hok ca n cc w hn hm h L hE
  have PH := fun w h => holdersW_bad cn cs cy cb xs hxl wx hs hok ca n cc w hn hm h L hE
  have PV' : ∀ w, CachesAt w ca hs → Calls Try.prog 18 #[.agg #[.int .i64 cn, .int .i64 cs, .int .i64 cy, .int .i64 cb], .agg (worldL ca n cc xs).toArray, .int .i64 L] w (Ret (.tuple #[.agg #[.int .u64 0, .int .u64 0, .int .u64 0, .int .u64 0], .int .i64 (askE cn cs cy cb hs xs L)]) w) := PV
  have PH' : ∀ w, CachesAt w ca hs → Calls Try.prog 19 #[.agg #[.int .i64 cn, .int .i64 cs, .int .i64 cy, .int .i64 cb], .agg (worldL ca n cc xs).toArray, .int .i64 L] w (Ret (.tuple #[.slice none 0 0, .int .i64 0, .int .i64 (askE cn cs cy cb hs xs L)]) w) := PH
  have HH := Lib.hid hH
  have hlw := worldL_len (a := ca) (n := n) (c := cc) hxl
  change Calls _ _ #[_, .agg (worldL ca n cc xs).toArray, _] _ _
  clear PV PH hH hok hn wx hxl
  generalize worldL ca n cc xs = CS at *
  generalize askE cn cs cy cb hs xs L = E at *
  have hE1 : (E != 0) = true := by simpa using hE
  have hE2 : (E == E) = true := by simp
  have hz := same0
  have HVA := Lib.hid PV'
  have HHO := Lib.hid PH'
  have HLW := Lib.hid hlw
  clear PV' PH' hlw hE
  -- A begin
  go_enter Try.func5, Try.ntmps5
  go_wp2_with (first
    | ((with_reducible refine at_wp ?_); refine wpList_load_r rfl 57 _ rfl _ rfl 65 _ Try.underlying57 rfl (by kernel_rfl) (by (simp [go_sem, HLW.out]; done)) ?_; intro C hC; simp [go_sem] at hC; subst hC)
    | (go_at_call 17; refine (agrees_any _).mono ?_; rintro e w1 ⟨rfl, hb1⟩; obtain ⟨l0, d0, rfl⟩ := later_of hb1; clear hb1)
    | (go_at_call 18; refine (HVA.out _ (CachesAt.below HH.out (by repeat (first | exact Below.refl _ _ | apply bs_later | apply bs_alloc | apply bs_drew | apply bs_drewN)))).mono ?_; rintro e w1 ⟨rfl, hb1⟩; obtain ⟨l1, d1, rfl⟩ := later_of hb1; clear hb1)
    | (go_at_call 19; refine (HHO.out _ (CachesAt.below HH.out (by repeat (first | exact Below.refl _ _ | apply bs_later | apply bs_alloc | apply bs_drew | apply bs_drewN)))).mono ?_; rintro e w1 ⟨rfl, hb1⟩; obtain ⟨l2, d2, rfl⟩ := later_of hb1; clear hb1))
  go_ret
  exact ⟨rfl, (by repeat (first | exact Below.refl _ _ | apply bs_later | apply bs_alloc | apply bs_drew | apply bs_drewN))⟩
  -- A end

set_option maxHeartbeats 8000000 in
set_option maxRecDepth 100000 in
theorem walk_ok (cn cs cy cb : Int) (xs : List Int) (hxl : xs.length = 64) (wx : AllU xs) (hs : List (List R4)) (hok : ∀ h ∈ hs, ∀ r ∈ h, r.Ok) (ca : Option Addr) (n cc : Nat) (w : World) (hn : hs.length = n) (hm : n ≤ maxLen) (hH : CachesAt w ca hs) (L : Nat) (hE : askE cn cs cy cb hs xs L = 0) :
    Calls Try.prog 5 #[.agg #[.int .i64 cn, .int .i64 cs, .int .i64 cy, .int .i64 cb], .agg (worldA ca n cc xs), .int .i64 L] w (Ret (.bool true) w) := by
  have PV := fun w h => val_ok cn cs cy cb xs hxl wx hs hok ca n cc w hn hm h L hE
  have PH := fun w h => holdersW_ok cn cs cy cb xs hxl wx hs hok ca n cc w hn hm h L hE
  obtain ⟨hA, hLr⟩ := askE_ok hE
  have PL := fun w h => flat_ok cn cs cy cb xs hxl wx hs hok ca n cc w hn hm h hA
  obtain ⟨hF, hlines⟩ := agreeP_ok hA
  obtain ⟨hcfg, hlen, hall⟩ := formE_ok hF
  have hcn := hcfg.2.1
  have hL16 : L < 16 := by omega
  have hchk : chkE xs L (holdL cs hs L) = 0 := hlines L hL16
  have hl8 : (holdL cs hs L).length ≤ 8 := Nat.le_trans (holdL_len cs L hs) (by omega)
  have hn8 : hs.length ≤ 8 := by omega
  have hap := (chk_inv hchk).1
  have hfew := writes_few hap (holdL_not0 (cs := cs) (hs := hs) (L := (L : Int)))
  have hown := owner_cases _ (holdL cs hs L) rfl
  have hvd := fun x hx => val_data hchk (x := x) hx
  have hvm := val_mem hxl hL16 hchk
  have hlo := holdL_ok (cs := cs) (L := (L : Int)) hok
  have hvw := fun i => valI_wf wx L hlo i
  have PV' : ∀ w, CachesAt w ca hs → Calls Try.prog 18 #[.agg #[.int .i64 cn, .int .i64 cs, .int .i64 cy, .int .i64 cb], .agg (worldL ca n cc xs).toArray, .int .i64 L] w (Ret (.tuple #[.agg #[.int .u64 (valI xs L (holdL cs hs L) 0), .int .u64 (valI xs L (holdL cs hs L) 1), .int .u64 (valI xs L (holdL cs hs L) 2), .int .u64 (valI xs L (holdL cs hs L) 3)], .int .i64 0]) w) := PV
  have PH' : ∀ w, CachesAt w ca hs → Calls Try.prog 19 #[.agg #[.int .i64 cn, .int .i64 cs, .int .i64 cy, .int .i64 cb], .agg (worldL ca n cc xs).toArray, .int .i64 L] w (HoldersPost (holdL cs hs L) w) := PH
  have PL' : ∀ w, CachesAt w ca hs → Calls Try.prog 23 #[.agg #[.int .i64 cn, .int .i64 cs, .int .i64 cy, .int .i64 cb], .agg (worldL ca n cc xs).toArray] w (Ret (.tuple #[.agg (memA (flatK zeroXs (vAt cs hs xs) 16)), .int .i64 0]) w) := PL
  have hzf : (flatK zeroXs (vAt cs hs xs) 16).length = 64 := flatK_len _ zeroXs_len 16
  have f0 := wordAt_cell hzf (i := L * 4) (by omega)
  have f1 := wordAt_cell hzf (i := L * 4 + 1) (by omega)
  have f2 := wordAt_cell hzf (i := L * 4 + 2) (by omega)
  have f3 := wordAt_cell hzf (i := L * 4 + 3) (by omega)
  rw [show wordAt (flatK zeroXs (vAt cs hs xs) 16) (L * 4) = valI xs L (holdL cs hs L) 0 from flatK_word zeroXs_len 16 L 0 hL16 (Nat.le_refl _) (by omega)] at f0
  rw [show wordAt (flatK zeroXs (vAt cs hs xs) 16) (L * 4 + 1) = valI xs L (holdL cs hs L) 1 from flatK_word zeroXs_len 16 L 1 hL16 (Nat.le_refl _) (by omega)] at f1
  rw [show wordAt (flatK zeroXs (vAt cs hs xs) 16) (L * 4 + 2) = valI xs L (holdL cs hs L) 2 from flatK_word zeroXs_len 16 L 2 hL16 (Nat.le_refl _) (by omega)] at f2
  rw [show wordAt (flatK zeroXs (vAt cs hs xs) 16) (L * 4 + 3) = valI xs L (holdL cs hs L) 3 from flatK_word zeroXs_len 16 L 3 hL16 (Nat.le_refl _) (by omega)] at f3
  have m0 : (worldL ca n cc xs).toArray[1 + L * 4]? = some (.int .u64 (wordAt xs (L * 4))) := worldA_word (ca := ca) (n := n) (cc := cc) hxl (i := L * 4) (by omega)
  have m1 : (worldL ca n cc xs).toArray[1 + L * 4 + 1]? = some (.int .u64 (wordAt xs (L * 4 + 1))) := worldA_word (ca := ca) (n := n) (cc := cc) hxl (i := L * 4 + 1) (by omega)
  have m2 : (worldL ca n cc xs).toArray[1 + L * 4 + 2]? = some (.int .u64 (wordAt xs (L * 4 + 2))) := worldA_word (ca := ca) (n := n) (cc := cc) hxl (i := L * 4 + 2) (by omega)
  have m3 : (worldL ca n cc xs).toArray[1 + L * 4 + 3]? = some (.int .u64 (wordAt xs (L * 4 + 3))) := worldA_word (ca := ca) (n := n) (cc := cc) hxl (i := L * 4 + 3) (by omega)
  have m00 : (worldL ca n cc xs).toArray[0]? = some (.slice ca n cc) := rfl
  have hlw := worldL_len (a := ca) (n := n) (c := cc) hxl
  have hlI : (L : Int) < 16 := by omega
  change Calls _ _ #[_, .agg (worldL ca n cc xs).toArray, _] _ _
  have HH := Lib.hid hH
  have HOK := Lib.hid hok
  have HCS := Lib.hid hall
  have HN := Lib.hid hn
  have HLR := Lib.hid hLr
  clear PV PH PL hH hok hall hcfg hlen hcn hE hA hF hlines hchk hap wx hxl hlo hm
  generalize worldL ca n cc xs = CS at *
  generalize flatK zeroXs (vAt cs hs xs) 16 = ZF at *
  generalize hv0 : valI xs L (holdL cs hs L) 0 = v0 at *
  generalize hv1 : valI xs L (holdL cs hs L) 1 = v1 at *
  generalize hv2 : valI xs L (holdL cs hs L) 2 = v2 at *
  generalize hv3 : valI xs L (holdL cs hs L) 3 = v3 at *
  generalize wordAt xs (L * 4) = y0 at *
  generalize wordAt xs (L * 4 + 1) = y1 at *
  generalize wordAt xs (L * 4 + 2) = y2 at *
  generalize wordAt xs (L * 4 + 3) = y3 at *
  have hsame := fun w => words.run_same_line w v0 v1 v2 v3 (hv0 ▸ hvw 0) (hv1 ▸ hvw 1) (hv2 ▸ hvw 2) (hv3 ▸ hvw 3)
  clear hv0 hv1 hv2 hv3 hvw
  have HMEM : Hid (∀ (k : Nat) h, hs[k]? = some h → ((k : Int) ∈ nodesL (holdL cs hs L) ↔ ∃ x, hasC cs L h = some x)) := Lib.hid fun k h hk => node_mem hk
  have HDATA : Hid (∀ (k : Nat) h x, hs[k]? = some h → hasC cs L h = some x → x.a = v0 ∧ x.b = v1 ∧ x.c = v2 ∧ x.d = v3) := Lib.hid fun k h x hk hx => hvd ⟨k, x⟩ (holdL_mem.2 ⟨h, hk, hx⟩)
  clear hvd
  obtain ⟨l, hl⟩ : ∃ l, l = holdL cs hs L := ⟨_, rfl⟩
  have HLL := Lib.hid hl
  rw [← hl] at PH' hl8 hfew hown hvm HMEM
  obtain ⟨N, hNN⟩ : ∃ N, N = l.length := ⟨_, rfl⟩
  have HNN := Lib.hid hNN
  have HVA := Lib.hid PV'
  have HHO := Lib.hid PH'
  have HFL := Lib.hid PL'
  have HLW := Lib.hid hlw
  have HSZ : Hid ((memA ZF).size = 64) := Lib.hid (by rw [size_memA, hzf])
  have HFEW := Lib.hid hfew
  have HOWN := Lib.hid hown
  have HVM := Lib.hid hvm
  clear PV' PH' PL' hlw hzf hfew hown hvm hn hl hNN
  -- B begin
  go_enter Try.func5, Try.ntmps5
  go_wp2_with (first
    | ((with_reducible refine at_wp ?_); refine wpList_load_r rfl 57 _ rfl _ rfl 65 _ Try.underlying57 rfl (by kernel_rfl) (by (simp [go_sem, HLW.out]; done)) ?_; intro C hC; simp [go_sem] at hC; subst hC)
    | (go_at_call 17; refine (agrees_any _).mono ?_; rintro e w1 ⟨rfl, hb1⟩; obtain ⟨l0, d0, rfl⟩ := later_of hb1; clear hb1)
    | (go_at_call 18; refine (HVA.out _ (CachesAt.below HH.out (by repeat (first | exact Below.refl _ _ | apply bs_later | apply bs_alloc | apply bs_drew | apply bs_drewN)))).mono ?_; rintro e w1 ⟨rfl, hb1⟩; obtain ⟨l1, d1, rfl⟩ := later_of hb1; clear hb1)
    | (go_at_call 19; refine (HHO.out _ (CachesAt.below HH.out (by repeat (first | exact Below.refl _ _ | apply bs_later | apply bs_alloc | apply bs_drew | apply bs_drewN)))).mono ?_; rintro e w1 ⟨va, vc, rfl, hint, hb1⟩; have HIN := Lib.hid hint; obtain ⟨l2, d2, rfl⟩ := later_of hb1; clear hb1 hint))
  rw [← HNN.out]
  rw [← HNN.out] at hl8
  go_loopw [12, 59] (RelR cs hs L ((((((w.alloc (.cells #[.int .i64 cn, .int .i64 cs, .int .i64 cy, .int .i64 cb] 54)).alloc (.cells CS.toArray 57)).later l0 d0).later l1 d1).alloc (.cells #[.int .u64 v0, .int .u64 v1, .int .u64 v2, .int .u64 v3] 24)).later l2 d2)) (fun _ i _ => n - (intOf i).toNat)
  case atStart => exact ⟨0, #[], _, Nat.zero_le _, rfl, rfl, later_zero _⟩
  case round =>
    obtain ⟨k, o, d, hk, rfl, rfl, rfl⟩ := hrel
    by_cases hlt : k < n
    · -- C begin
      obtain ⟨h, hh⟩ := get_some (xs := hs) (k := k) (by rw [HN.out]; exact hlt)
      obtain ⟨b, off, rfl⟩ := ListsAt.form HH.out hh
      obtain ⟨p, pc, e0, q1, q2, q3, q4⟩ := ListsAt.at HH.out hh
      have hinb : inB w b := table.lt_of_cell e0
      have hmem := List.mem_of_getElem? hh
      have hce := HCS.out h hmem
      obtain ⟨hcfg, hlen, _⟩ := cacheE_ok hce
      have hcs1 : 1 ≤ cs := hcfg.2.2.1
      obtain ⟨i, hi⟩ := Int.eq_ofNat_of_zero_le (Int.emod_nonneg L (by omega : cs ≠ 0))
      have hil : i < h.length := by
        have := Int.emod_lt_of_pos (L : Int) (by omega : 0 < cs)
        omega
      obtain ⟨r, hr⟩ := get_some hil
      have HQ := Lib.hid q4
      have HJ : Hid (k + 1 ≤ hs.length) := Lib.hid (by rw [HN.out]; exact hlt)
      have hkI : (k : Int) < n := by omega
      have hk8 : k ≤ 8 := by have := HN.out; omega
      have HSN : Hid (holdL cs (hs.take (k + 1)) L = holdL cs (hs.take k) L ++ oneH k (hasC cs L h)) := Lib.hid (by
        rw [take_snocH hh, holdL_snoc]
        have : (hs.take k).length = k := by rw [List.length_take, HN.out]; omega
        rw [this])
      have HWL : Hid (writesL (holdL cs (hs.take k) L) ≤ 8) := Lib.hid (by
        have h1 : writesL (holdL cs (hs.take k) L) ≤ (holdL cs (hs.take k) L).length := List.countP_le_length
        have h2 := holdL_len cs L (hs.take k)
        have h3 : (hs.take k).length ≤ 8 := by rw [List.length_take]; omega
        omega)
      have hmm := HMEM.out k h hh
      have hdd := fun x => HDATA.out k h x hh
      have PC := fun w hI => contains.contains_any va vc (k : Int) w (nodesL l) (by rw [nodesL_len, ← HNN.out]; unfold maxLen; omega) hI
      rw [nodesL_len, ← HNN.out] at PC
      generalize hwk : writesL (holdL cs (hs.take k) L) = wk at *
      have hwI : (wk : Int) ≤ 8 := by have := HWL.out; omega
      rcases hasC_of hi hr with ⟨hno, hf⟩ | ⟨j, x, hyes, hf, hx⟩
      · -- D begin
        have PF := fun w h' => cacheFind_no cn cs cy cb h (HOK.out h hmem) L p h.length pc w rfl (Nat.le_trans q1 q2) h' hce HLR.out i r hi hr hf
        have HF := Lib.hid PF
        rw [decide_eq_false (fun hm => by obtain ⟨x, hx⟩ := hmm.1 hm; rw [hno] at hx; cases hx)] at PC
        have HCN := Lib.hid PC
        have HS2 : Hid (writesL (holdL cs (hs.take (k + 1)) L) = wk) := Lib.hid (by rw [HSN.out, hno, ← hwk]; exact congrArg writesL (List.append_nil _))
        have HWR := Lib.hid (fun w => writes_any 0 w)
        rw [show amongB 0 [2, 4] = false by decide] at HWR
        clear hk q3 q4 hh hmem hce hcfg hlen hi hil hr PF hno hf HSN hcs1 hmm hdd PC hwk
        go_wp2_with (first
          | (go_at_call 20; refine (HF.out _ (CacheAt.below HQ.out (by repeat (first | exact Below.refl _ _ | apply bs_later | apply bs_alloc | apply bs_drew | apply bs_drewN)))).mono ?_; rintro e w1 ⟨rfl, hb1⟩; obtain ⟨l3, d3, rfl⟩ := later_of hb1; clear hb1)
          | (go_at_call 21; refine (HCN.out _ (IntsAt.below HIN.out (by repeat (first | exact Below.refl _ _ | apply bs_later | apply bs_alloc | apply bs_drew | apply bs_drewN)))).mono ?_; rintro e w1 ⟨rfl, rfl⟩)
          | (go_at_call 22; refine (HWR.out _).mono ?_; rintro e w1 ⟨rfl, hb1⟩; obtain ⟨l4, d4, rfl⟩ := later_of hb1; clear hb1))
        go_roundw
        case rel => exact ⟨k + 1, _, _, HJ.out, by rw [HS2.out], by go_num, later_mid2 _ _ _ _ _ _ _ _⟩
        case measure => simp [intOf]; omega
        -- D end
      · -- E begin
        have PF := fun w h' => cacheFind_yes cn cs cy cb h (HOK.out h hmem) L p h.length pc w rfl (Nat.le_trans q1 q2) h' hce HLR.out i r hi hr j x hf hx
        have HF := Lib.hid PF
        rw [decide_eq_true (hmm.2 ⟨x, hyes⟩)] at PC
        have HCN := Lib.hid PC
        have hd4 := hdd x hyes
        have HS2 : Hid (writesL (holdL cs (hs.take (k + 1)) L) = wk + if amongB x.s [2, 4] = true then 1 else 0) := Lib.hid (by rw [HSN.out, hyes, ← hwk]; exact writesL_snoc _ _)
        have PW := fun w => writes_any x.s w
        clear hk q3 q4 hh hmem hce hcfg hlen hi hil hr PF hyes hf hx HSN hcs1 hmm hdd PC hwk
        obtain ⟨xs', xl, xa, xb, xc, xd⟩ := x
        obtain ⟨rfl, rfl, rfl, rfl⟩ := hd4
        simp only at HF PW HS2
        obtain ⟨bw, hbw⟩ : ∃ bw, bw = amongB xs' [2, 4] := ⟨_, rfl⟩
        rw [← hbw] at PW HS2
        have HWR := Lib.hid PW
        clear PW hbw
        cases bw
        · go_wp2_with (first
            | (go_at_call 20; refine (HF.out _ (CacheAt.below HQ.out (by repeat (first | exact Below.refl _ _ | apply bs_later | apply bs_alloc | apply bs_drew | apply bs_drewN)))).mono ?_; rintro e w1 ⟨rfl, hb1⟩; obtain ⟨l3, d3, rfl⟩ := later_of hb1; clear hb1)
            | (go_at_call 21; refine (HCN.out _ (IntsAt.below HIN.out (by repeat (first | exact Below.refl _ _ | apply bs_later | apply bs_alloc | apply bs_drew | apply bs_drewN)))).mono ?_; rintro e w1 ⟨rfl, rfl⟩)
            | (go_at_call 22; refine (HWR.out _).mono ?_; rintro e w1 ⟨rfl, hb1⟩; obtain ⟨l4, d4, rfl⟩ := later_of hb1; clear hb1))
          go_roundw
          case rel => exact ⟨k + 1, _, _, HJ.out, by rw [HS2.out]; rfl, by go_num, later_mid2 _ _ _ _ _ _ _ _⟩
          case measure => simp [intOf]; omega
        · go_wp2_with (first
            | (go_at_call 20; refine (HF.out _ (CacheAt.below HQ.out (by repeat (first | exact Below.refl _ _ | apply bs_later | apply bs_alloc | apply bs_drew | apply bs_drewN)))).mono ?_; rintro e w1 ⟨rfl, hb1⟩; obtain ⟨l3, d3, rfl⟩ := later_of hb1; clear hb1)
            | (go_at_call 21; refine (HCN.out _ (IntsAt.below HIN.out (by repeat (first | exact Below.refl _ _ | apply bs_later | apply bs_alloc | apply bs_drew | apply bs_drewN)))).mono ?_; rintro e w1 ⟨rfl, rfl⟩)
            | (go_at_call 22; refine (HWR.out _).mono ?_; rintro e w1 ⟨rfl, hb1⟩; obtain ⟨l4, d4, rfl⟩ := later_of hb1; clear hb1))
          go_roundw
          case rel => exact ⟨k + 1, _, _, HJ.out, by rw [HS2.out]; rfl, by go_num, later_mid2 _ _ _ _ _ _ _ _⟩
          case measure => simp [intOf]; omega
        -- E end
      -- C end
    · obtain rfl : k = n := by have := HN.out; omega
      rw [List.take_of_length_le (by rw [HN.out]; exact Nat.le_refl _), ← HLL.out]
      -- F begin
      have HCO : ∀ (x : Int), x ∈ nodesL l → ∀ w, IntsAt .i64 w va (nodesL l) → Calls Try.prog 21 #[.slice va N vc, .int .i64 x] w fun e w' => e = .returned (.bool true) ∧ w = w' := fun x hx w hI => by
        have P := contains.contains_any va vc x w (nodesL l) (by rw [nodesL_len, ← HNN.out]; unfold maxLen; omega) hI
        rw [nodesL_len, ← HNN.out, decide_eq_true hx] at P
        exact P
      have hw1 := HFEW.out.1
      have hw2 := HFEW.out.2
      rw [← HNN.out] at hw2
      generalize writesL l = wk at *
      generalize how : ownerL l = ow at *
      have hkI : ¬ (k : Int) < k := by omega
      rcases HOWN.out with ⟨h1, h2⟩ | ⟨h1, h2, h3⟩
      · obtain ⟨rfl, rfl, rfl, rfl⟩ := HVM.out h1
        subst h2
        clear h1 HCO
        rcases hw2 with rfl | rfl
        · -- G begin
          go_upto_region 18 with (first
            | ((with_reducible refine at_wp ?_); refine wpList_load_r rfl 57 _ rfl _ rfl 65 _ Try.underlying57 rfl (by kernel_rfl) (by (simp [go_sem, HLW.out]; done)) ?_; intro C hC; simp [go_sem] at hC; subst hC)
            | (go_at_call 23; refine (HFL.out _ (CachesAt.below HH.out (by repeat (first | exact Below.refl _ _ | apply bs_later | apply bs_alloc | apply bs_drew | apply bs_drewN)))).mono ?_; rintro e w1 ⟨rfl, hb1⟩; obtain ⟨l5, d5, rfl⟩ := later_of hb1; clear hb1)
            | ((with_reducible refine at_wp ?_); refine wpList_store_r rfl 26 _ _ rfl _ rfl _ rfl 64 (by kernel_rfl) (by (simp [go_sem, HSZ.out]; done)) (by (simp [HSZ.out]; done)) (memA_one _) ?_; intro W' hW'; simp [go_sem] at hW'; subst hW'))
          go_quiet (fail)
          go_wp2
          go_ret
          exact ⟨rfl, (by repeat (first | exact Below.refl _ _ | apply bs_later | apply bs_alloc | apply bs_drew | apply bs_drewN))⟩
          -- G end
        · -- H begin
          have hwI : (wk : Int) ≤ 1 := by omega
          by_cases hwz : wk = 0
          · subst hwz
            go_upto_region 18 with (first
              | ((with_reducible refine at_wp ?_); refine wpList_load_r rfl 57 _ rfl _ rfl 65 _ Try.underlying57 rfl (by kernel_rfl) (by (simp [go_sem, HLW.out]; done)) ?_; intro C hC; simp [go_sem] at hC; subst hC)
              | (go_at_call 23; refine (HFL.out _ (CachesAt.below HH.out (by repeat (first | exact Below.refl _ _ | apply bs_later | apply bs_alloc | apply bs_drew | apply bs_drewN)))).mono ?_; rintro e w1 ⟨rfl, hb1⟩; obtain ⟨l5, d5, rfl⟩ := later_of hb1; clear hb1)
              | ((with_reducible refine at_wp ?_); refine wpList_store_r rfl 26 _ _ rfl _ rfl _ rfl 64 (by kernel_rfl) (by (simp [go_sem, HSZ.out]; done)) (by (simp [HSZ.out]; done)) (memA_one _) ?_; intro W' hW'; simp [go_sem] at hW'; subst hW'))
            go_quiet (fail)
            go_wp2
            go_ret
            exact ⟨rfl, (by repeat (first | exact Below.refl _ _ | apply bs_later | apply bs_alloc | apply bs_drew | apply bs_drewN))⟩
          · obtain rfl : wk = 1 := by omega
            go_upto_region 18 with (first
              | ((with_reducible refine at_wp ?_); refine wpList_load_r rfl 57 _ rfl _ rfl 65 _ Try.underlying57 rfl (by kernel_rfl) (by (simp [go_sem, HLW.out]; done)) ?_; intro C hC; simp [go_sem] at hC; subst hC)
              | (go_at_call 23; refine (HFL.out _ (CachesAt.below HH.out (by repeat (first | exact Below.refl _ _ | apply bs_later | apply bs_alloc | apply bs_drew | apply bs_drewN)))).mono ?_; rintro e w1 ⟨rfl, hb1⟩; obtain ⟨l5, d5, rfl⟩ := later_of hb1; clear hb1)
              | ((with_reducible refine at_wp ?_); refine wpList_store_r rfl 26 _ _ rfl _ rfl _ rfl 64 (by kernel_rfl) (by (simp [go_sem, HSZ.out]; done)) (by (simp [HSZ.out]; done)) (memA_one _) ?_; intro W' hW'; simp [go_sem] at hW'; subst hW'))
            go_quiet (fail)
            go_wp2
            go_ret
            exact ⟨rfl, (by repeat (first | exact Below.refl _ _ | apply bs_later | apply bs_alloc | apply bs_drew | apply bs_drewN))⟩
          -- H end
      · -- I begin
        have HCW := Lib.hid (HCO ow h3)
        obtain ⟨om, rfl⟩ := Int.eq_ofNat_of_zero_le h2
        have h4 : ¬ (om : Int) < 0 := by omega
        have h5 : (0 : Int) ≤ om := by omega
        clear h1 h2 h3 HCO how
        have go3 : wk = 0 ∨ (wk = 1 ∧ N = 1) := by omega
        rcases go3 with rfl | ⟨rfl, rfl⟩
        · go_upto_region 18 with (first
            | ((with_reducible refine at_wp ?_); refine wpList_load_r rfl 57 _ rfl _ rfl 65 _ Try.underlying57 rfl (by kernel_rfl) (by (simp [go_sem, HLW.out]; done)) ?_; intro C hC; simp [go_sem] at hC; subst hC)
            | (go_at_call 23; refine (HFL.out _ (CachesAt.below HH.out (by repeat (first | exact Below.refl _ _ | apply bs_later | apply bs_alloc | apply bs_drew | apply bs_drewN)))).mono ?_; rintro e w1 ⟨rfl, hb1⟩; obtain ⟨l5, d5, rfl⟩ := later_of hb1; clear hb1)
            | ((with_reducible refine at_wp ?_); refine wpList_store_r rfl 26 _ _ rfl _ rfl _ rfl 64 (by kernel_rfl) (by (simp [go_sem, HSZ.out]; done)) (by (simp [HSZ.out]; done)) (memA_one _) ?_; intro W' hW'; simp [go_sem] at hW'; subst hW'))
          have h6 : ¬ ((om : Int) < 0) := by omega
          go_quiet ((go_at_call 21; refine (HCW.out _ (IntsAt.below HIN.out (by repeat (first | exact Below.refl _ _ | apply bs_later | apply bs_alloc | apply bs_drew | apply bs_drewN)))).mono ?_; rintro e w1 ⟨rfl, rfl⟩; exact ⟨rfl, _, rfl⟩))
          go_wp2
          go_ret
          exact ⟨rfl, (by repeat (first | exact Below.refl _ _ | apply bs_later | apply bs_alloc | apply bs_drew | apply bs_drewN))⟩
        · go_upto_region 18 with (first
            | ((with_reducible refine at_wp ?_); refine wpList_load_r rfl 57 _ rfl _ rfl 65 _ Try.underlying57 rfl (by kernel_rfl) (by (simp [go_sem, HLW.out]; done)) ?_; intro C hC; simp [go_sem] at hC; subst hC)
            | (go_at_call 23; refine (HFL.out _ (CachesAt.below HH.out (by repeat (first | exact Below.refl _ _ | apply bs_later | apply bs_alloc | apply bs_drew | apply bs_drewN)))).mono ?_; rintro e w1 ⟨rfl, hb1⟩; obtain ⟨l5, d5, rfl⟩ := later_of hb1; clear hb1)
            | ((with_reducible refine at_wp ?_); refine wpList_store_r rfl 26 _ _ rfl _ rfl _ rfl 64 (by kernel_rfl) (by (simp [go_sem, HSZ.out]; done)) (by (simp [HSZ.out]; done)) (memA_one _) ?_; intro W' hW'; simp [go_sem] at hW'; subst hW'))
          have h6 : ¬ ((om : Int) < 0) := by omega
          go_quiet ((go_at_call 21; refine (HCW.out _ (IntsAt.below HIN.out (by repeat (first | exact Below.refl _ _ | apply bs_later | apply bs_alloc | apply bs_drew | apply bs_drewN)))).mono ?_; rintro e w1 ⟨rfl, rfl⟩; exact ⟨rfl, _, rfl⟩))
          go_wp2
          go_ret
          exact ⟨rfl, (by repeat (first | exact Below.refl _ _ | apply bs_later | apply bs_alloc | apply bs_drew | apply bs_drewN))⟩
        -- I end
      -- F end
  -- B end
end Go.Proofs.Ytffhfpdmfegcpac.agreeReads
