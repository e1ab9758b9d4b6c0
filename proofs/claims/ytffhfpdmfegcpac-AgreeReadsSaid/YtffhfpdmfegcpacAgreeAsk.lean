/- The contracts of agree.asked, agree.value, agree.Value, agree.Holders. -/
import Derived.Test.YtffhfpdmfegcpacAgreeWorld
namespace Go.Proofs.Ytffhfpdmfegcpac.agree
open Go.ChangeShapes Go.WideShapes Go.ChangeAt Go.RowKit
open Go.Joins (ownsRow_le)
open Go.Proofs.Ytffhfpdmfegcpac.base Go.Proofs.Ytffhfpdmfegcpac.flat Go.Proofs.Ytffhfpdmfegcpac.table Go.Proofs.Ytffhfpdmfegcpac.prog Go.Proofs.Ytffhfpdmfegcpac.same Go.Proofs.Ytffhfpdmfegcpac.addr Go.Proofs.Ytffhfpdmfegcpac.bank Go.Proofs.Ytffhfpdmfegcpac.ways Go.Proofs.Ytffhfpdmfegcpac.state Go.Proofs.Ytffhfpdmfegcpac.turn Go.Proofs.Ytffhfpdmfegcpac.bankMore Go.Proofs.Ytffhfpdmfegcpac.memEq
set_option linter.unusedVariables false
set_option linter.unusedSimpArgs false

noncomputable def askE (cn cs cy cb : Int) (hs : List (List R4)) (xs : List Int) (L : Int) : Int := if (agreeP cn cs cy cb hs xs).1 = 0 then (if 0 ≤ L ∧ L ≤ 15 then 0 else 4) else (agreeP cn cs cy cb hs xs).1
theorem askE_ok {cn cs cy cb : Int} {hs : List (List R4)} {xs : List Int} {L : Int} (h : askE cn cs cy cb hs xs L = 0) : (agreeP cn cs cy cb hs xs).1 = 0 ∧ 0 ≤ L ∧ L ≤ 15 := by
  unfold askE at h
  by_cases h0 : (agreeP cn cs cy cb hs xs).1 = 0
  · rw [if_pos h0] at h
    by_cases h1 : 0 ≤ L ∧ L ≤ 15
    · exact ⟨h0, h1⟩
    · rw [if_neg h1] at h; cases h
  · rw [if_neg h0] at h; exact absurd h h0
theorem agreeP_ok {cn cs cy cb : Int} {hs : List (List R4)} {xs : List Int} (h : (agreeP cn cs cy cb hs xs).1 = 0) : formE cn cs cy cb hs = 0 ∧ ∀ L, L < 16 → lineE cs hs xs L = 0 := by
  unfold agreeP at h
  by_cases hF : formE cn cs cy cb hs = 0
  · rw [if_pos hF] at h
    exact ⟨hF, fun L hL => scanE_all h L (Nat.zero_le _) (by omega)⟩
  · rw [if_neg hF] at h; exact absurd h hF

set_option maxHeartbeats 4000000 in
set_option maxRecDepth 100000 in
theorem asked_bad (cn cs cy cb : Int) (xs : List Int) (hxl : xs.length = 64) (wx : AllU xs) (hs : List (List R4)) (hok : ∀ h ∈ hs, ∀ r ∈ h, r.Ok) (ca : Option Addr) (n cc : Nat) (w : World) (hn : hs.length = n) (hm : n ≤ maxLen) (hH : CachesAt w ca hs) (L : Int) (hE : ¬ askE cn cs cy cb hs xs L = 0) :
    Calls Try.prog 52 #[.agg #[.int .i64 cn, .int .i64 cs, .int .i64 cy, .int .i64 cb], .agg (worldA ca n cc xs), .int .i64 L] w (Ret (.tuple #[.slice none 0 0, .int .i64 (askE cn cs cy cb hs xs L)]) w) := by
  have PF := fun w h => checkW_any cn cs cy cb xs hxl wx hs hok ca n cc w hn hm h
  have PF' : ∀ w, CachesAt w ca hs → Calls Try.prog 58 #[.agg #[.int .i64 cn, .int .i64 cs, .int .i64 cy, .int .i64 cb], .agg (worldL ca n cc xs).toArray] w (Ret (.tuple #[.int .i64 (agreeP cn cs cy cb hs xs).1, .int .i64 ((agreeP cn cs cy cb hs xs).2 : Int)]) w) := PF
  have HH := Lib.hid hH
  have hlw := worldL_len (a := ca) (n := n) (c := cc) hxl
  change Calls _ _ #[_, .agg (worldL ca n cc xs).toArray, _] _ _
  unfold askE at hE ⊢
  clear PF hH hok hn wx hxl
  generalize worldL ca n cc xs = CS at *
  generalize (agreeP cn cs cy cb hs xs).1 = E at *
  generalize (agreeP cn cs cy cb hs xs).2 = E2 at *
  have HPF := Lib.hid PF'
  have HLW := Lib.hid hlw
  clear PF' hlw
  by_cases h0 : E = 0
  · subst h0
    have hr : ¬ (0 ≤ L ∧ L ≤ 15) := fun h => hE (by rw [if_pos rfl, if_pos h])
    rw [if_pos rfl, if_neg hr]
    clear hE
    -- A begin
    by_cases h1 : L < 0
    · go_enter Try.func52, Try.ntmps52
      go_wp2_with (first
        | ((with_reducible refine at_wp ?_); refine wpList_load_r rfl 57 _ rfl _ rfl 65 _ Try.underlying57 rfl (by kernel_rfl) (by (simp [go_sem, HLW.out]; done)) ?_; intro C hC; simp [go_sem] at hC; subst hC)
        | (go_at_call 58; refine (HPF.out _ (CachesAt.below HH.out (by repeat (first | exact Below.refl _ _ | apply bs_later | apply bs_alloc | apply bs_drew | apply bs_drewN)))).mono ?_; rintro e w1 ⟨rfl, hb1⟩; obtain ⟨l1, d1, rfl⟩ := later_of hb1; clear hb1))
      go_ret2
      exact ⟨rfl, (by repeat (first | exact Below.refl _ _ | apply bs_later | apply bs_alloc | apply bs_drew | apply bs_drewN))⟩
    · have h2 : ¬ L < 16 := by omega
      have h3 : 16 ≤ L := by omega
      go_enter Try.func52, Try.ntmps52
      go_wp2_with (first
        | ((with_reducible refine at_wp ?_); refine wpList_load_r rfl 57 _ rfl _ rfl 65 _ Try.underlying57 rfl (by kernel_rfl) (by (simp [go_sem, HLW.out]; done)) ?_; intro C hC; simp [go_sem] at hC; subst hC)
        | (go_at_call 58; refine (HPF.out _ (CachesAt.below HH.out (by repeat (first | exact Below.refl _ _ | apply bs_later | apply bs_alloc | apply bs_drew | apply bs_drewN)))).mono ?_; rintro e w1 ⟨rfl, hb1⟩; obtain ⟨l1, d1, rfl⟩ := later_of hb1; clear hb1))
      go_ret2
      exact ⟨rfl, (by repeat (first | exact Below.refl _ _ | apply bs_later | apply bs_alloc | apply bs_drew | apply bs_drewN))⟩
    -- A end
  · rw [if_neg h0]
    have h01 : (E != 0) = true := by simpa using h0
    have h02 : (E == 0) = false := by simpa using h0
    clear hE
    -- B begin
    go_enter Try.func52, Try.ntmps52
    go_wp2_with (first
      | ((with_reducible refine at_wp ?_); refine wpList_load_r rfl 57 _ rfl _ rfl 65 _ Try.underlying57 rfl (by kernel_rfl) (by (simp [go_sem, HLW.out]; done)) ?_; intro C hC; simp [go_sem] at hC; subst hC)
      | (go_at_call 58; refine (HPF.out _ (CachesAt.below HH.out (by repeat (first | exact Below.refl _ _ | apply bs_later | apply bs_alloc | apply bs_drew | apply bs_drewN)))).mono ?_; rintro e w1 ⟨rfl, hb1⟩; obtain ⟨l1, d1, rfl⟩ := later_of hb1; clear hb1))
    go_ret2
    exact ⟨rfl, (by repeat (first | exact Below.refl _ _ | apply bs_later | apply bs_alloc | apply bs_drew | apply bs_drewN))⟩
    -- B end

/-- who holds a line, in a row of the call's own, and that all is right -/
def AskPost (l : List H7) (w : World) (e : Ending) (w' : World) : Prop := ∃ a c, e = .returned (.tuple #[.slice a l.length c, .int .i64 0]) ∧ w'.ownsRow w.heap.size 126 7 (.slice a l.length c) l.length (cellsH l) ∧ Below w.heap.size w w'

set_option maxHeartbeats 4000000 in
set_option maxRecDepth 100000 in
theorem asked_ok (cn cs cy cb : Int) (xs : List Int) (hxl : xs.length = 64) (wx : AllU xs) (hs : List (List R4)) (hok : ∀ h ∈ hs, ∀ r ∈ h, r.Ok) (ca : Option Addr) (n cc : Nat) (w : World) (hn : hs.length = n) (hm : n ≤ maxLen) (hH : CachesAt w ca hs) (L : Int) (hE : askE cn cs cy cb hs xs L = 0) :
    Calls Try.prog 52 #[.agg #[.int .i64 cn, .int .i64 cs, .int .i64 cy, .int .i64 cb], .agg (worldA ca n cc xs), .int .i64 L] w (AskPost (holdL cs hs L) w) := by
  have PF := fun w h => checkW_any cn cs cy cb xs hxl wx hs hok ca n cc w hn hm h
  obtain ⟨hA, hL⟩ := askE_ok hE
  obtain ⟨hF, _⟩ := agreeP_ok hA
  obtain ⟨hcfg, hlen, hall⟩ := formE_ok hF
  have hcn := hcfg.2.1
  rw [hA] at PF
  have PF' : ∀ w, CachesAt w ca hs → Calls Try.prog 58 #[.agg #[.int .i64 cn, .int .i64 cs, .int .i64 cy, .int .i64 cb], .agg (worldL ca n cc xs).toArray] w (Ret (.tuple #[.int .i64 0, .int .i64 ((agreeP cn cs cy cb hs xs).2 : Int)]) w) := PF
  have PH : ∀ w, CachesAt w ca hs → Calls Try.prog 61 #[.agg #[.int .i64 cn, .int .i64 cs, .int .i64 cy, .int .i64 cb], .agg (worldL ca n cc xs).toArray, .int .i64 L] w (HoldPost (holdL cs hs L) w) := fun w h => by
    rw [← hn]; exact holders_any cn cs cy cb xs hs hok hall (by omega) L hL ca cc w h
  have HH := Lib.hid hH
  have hlw := worldL_len (a := ca) (n := n) (c := cc) hxl
  change Calls _ _ #[_, .agg (worldL ca n cc xs).toArray, _] _ _
  have hL0 : ¬ L < 0 := by omega
  have hL1 : L < 16 := by omega
  have hL2 : ¬ 16 ≤ L := by omega
  clear PF hH hok hn wx hxl hE hA hF hcfg hlen hall hcn
  generalize worldL ca n cc xs = CS at *
  generalize (agreeP cn cs cy cb hs xs).2 = E2 at *
  have HPF := Lib.hid PF'
  have HPH := Lib.hid PH
  have HLW := Lib.hid hlw
  clear PF' PH hlw
  -- C begin
  go_enter Try.func52, Try.ntmps52
  go_wp2_with (first
    | ((with_reducible refine at_wp ?_); refine wpList_load_r rfl 57 _ rfl _ rfl 65 _ Try.underlying57 rfl (by kernel_rfl) (by (simp [go_sem, HLW.out]; done)) ?_; intro C hC; simp [go_sem] at hC; subst hC)
    | (go_at_call 58; refine (HPF.out _ (CachesAt.below HH.out (by repeat (first | exact Below.refl _ _ | apply bs_later | apply bs_alloc | apply bs_drew | apply bs_drewN)))).mono ?_; rintro e w1 ⟨rfl, hb1⟩; obtain ⟨l1, d1, rfl⟩ := later_of hb1; clear hb1)
    | (go_at_call 61; refine (HPH.out _ (CachesAt.below HH.out (by repeat (first | exact Below.refl _ _ | apply bs_later | apply bs_alloc | apply bs_drew | apply bs_drewN)))).mono ?_; rintro e w1 ⟨v, rfl, hown, hb1⟩; obtain ⟨va, vc, hv⟩ := own_form hown; subst hv; have HO := Lib.hid hown; obtain ⟨l2, d2, rfl⟩ := later_of hb1; clear hb1 hown))
  go_ret2
  exact ⟨va, vc, rfl, ownsRow_le HO.out (by first | (simp; done) | (simp; omega)), (by repeat (first | exact Below.refl _ _ | apply bs_later | apply bs_alloc | apply bs_drew | apply bs_drewN))⟩
  -- C end

/-! ### the line's value -/
def valI (xs : List Int) (L : Nat) (l : List H7) (i : Nat) : Int := match l with | [] => wordAt xs (L * 4 + i) | y :: _ => (dataL y.x).getD i 0
theorem valI_wf {xs : List Int} (wx : AllU xs) (L : Nat) {l : List H7} (hl : ∀ y ∈ l, y.x.Ok) (i : Nat) : (Lit.int .u64 (valI xs L l i)).wf = true := by
  unfold valI
  cases l with
  | nil => exact wordAt_wf wx _
  | cons y l =>
    obtain ⟨_, _, h1, h2, h3, h4⟩ := hl y (by simp)
    show (Lit.int .u64 ((dataL y.x).getD i 0)).wf = true
    unfold dataL
    rw [List.getD_eq_getElem?_getD]
    match i with
    | 0 => exact h1
    | 1 => exact h2
    | 2 => exact h3
    | 3 => exact h4
    | i + 4 => show (Lit.int .u64 0).wf = true; decide

set_option maxHeartbeats 2000000 in
set_option maxRecDepth 100000 in
theorem value_any (xs : List Int) (hxl : xs.length = 64) (l : List H7) (hl8 : l.length ≤ 8) (a : Option Addr) (c : Nat) (L : Nat) (hL : L < 16) (ca : Option Addr) (n cc : Nat) (w : World) (hH : HeldAt w a l) :
    Calls Try.prog 53 #[.agg (worldA ca n cc xs), .slice a l.length c, .int .i64 L] w (Ret (.agg #[.int .u64 (valI xs L l 0), .int .u64 (valI xs L l 1), .int .u64 (valI xs L l 2), .int .u64 (valI xs L l 3)]) w) := by
  have m0 : (worldA ca n cc xs)[1 + L * 4]? = some (.int .u64 (wordAt xs (L * 4))) := worldA_word (ca := ca) (n := n) (cc := cc) hxl (i := L * 4) (by omega)
  have m1 : (worldA ca n cc xs)[1 + L * 4 + 1]? = some (.int .u64 (wordAt xs (L * 4 + 1))) := worldA_word (ca := ca) (n := n) (cc := cc) hxl (i := L * 4 + 1) (by omega)
  have m2 : (worldA ca n cc xs)[1 + L * 4 + 2]? = some (.int .u64 (wordAt xs (L * 4 + 2))) := worldA_word (ca := ca) (n := n) (cc := cc) hxl (i := L * 4 + 2) (by omega)
  have m3 : (worldA ca n cc xs)[1 + L * 4 + 3]? = some (.int .u64 (wordAt xs (L * 4 + 3))) := worldA_word (ca := ca) (n := n) (cc := cc) hxl (i := L * 4 + 3) (by omega)
  have hsz := worldA_size (a := ca) (n := n) (c := cc) hxl
  have hL16 : (L : Int) < 16 := by omega
  cases l with
  | nil =>
    -- D begin
    change Calls _ _ _ _ (Ret (.agg #[.int .u64 (wordAt xs (L * 4)), .int .u64 (wordAt xs (L * 4 + 1)), .int .u64 (wordAt xs (L * 4 + 2)), .int .u64 (wordAt xs (L * 4 + 3))]) w)
    generalize worldA ca n cc xs = A at *
    generalize wordAt xs (L * 4) = y0 at *
    generalize wordAt xs (L * 4 + 1) = y1 at *
    generalize wordAt xs (L * 4 + 2) = y2 at *
    generalize wordAt xs (L * 4 + 3) = y3 at *
    clear hxl hH hl8
    go_enter Try.func53, Try.ntmps53
    go_wp2
    go_returns
    exact ⟨rfl, (by repeat (first | exact Below.refl _ _ | apply bs_later | apply bs_alloc | apply bs_drew | apply bs_drewN))⟩
    -- D end
  | cons y l =>
    -- E begin
    change Calls _ _ _ _ (Ret (.agg #[.int .u64 y.x.a, .int .u64 y.x.b, .int .u64 y.x.c, .int .u64 y.x.d]) w)
    obtain ⟨b, off, rfl⟩ := HeldAt.form hH (i := 0) (y := y) rfl
    obtain ⟨e0, e1, e2, e3, e4, e5, e6⟩ := HeldAt.at hH (i := 0) (y := y) rfl
    simp only [Nat.zero_mul, Nat.add_zero] at e0 e1 e2 e3 e4 e5 e6
    have hinb : inB w b := table.lt_of_cell e0
    generalize worldA ca n cc xs = A at *
    generalize y.x.a = xa at *
    generalize y.x.b = xb at *
    generalize y.x.c = xc at *
    generalize y.x.d = xd at *
    obtain ⟨N, hN⟩ : ∃ N, N = (y :: l).length := ⟨_, rfl⟩
    have hN0 : 0 < N := by rw [hN]; simp
    have hNI : (0 : Int) < N := by omega
    rw [← hN] at hl8 ⊢
    clear hxl hH hN m0 m1 m2 m3
    go_enter Try.func53, Try.ntmps53
    go_wp2
    go_returns
    exact ⟨rfl, (by repeat (first | exact Below.refl _ _ | apply bs_later | apply bs_alloc | apply bs_drew | apply bs_drewN))⟩
    -- E end

set_option maxHeartbeats 4000000 in
set_option maxRecDepth 100000 in
theorem val_bad (cn cs cy cb : Int) (xs : List Int) (hxl : xs.length = 64) (wx : AllU xs) (hs : List (List R4)) (hok : ∀ h ∈ hs, ∀ r ∈ h, r.Ok) (ca : Option Addr) (n cc : Nat) (w : World) (hn : hs.length = n) (hm : n ≤ maxLen) (hH : CachesAt w ca hs) (L : Int) (hE : ¬ askE cn cs cy cb hs xs L = 0) :
    Calls Try.prog 18 #[.agg #[.int .i64 cn, .int .i64 cs, .int .i64 cy, .int .i64 cb], .agg (worldA ca n cc xs), .int .i64 L] w (Ret (.tuple #[.agg #[.int .u64 0, .int .u64 0, .int .u64 0, .int .u64 0], .int .i64 (askE cn cs cy cb hs xs L)]) w) := by
  have PF := fun w h => asked_bad cn cs cy cb xs hxl wx hs hok ca n cc w hn hm h L hE
  have PF' : ∀ w, CachesAt w ca hs → Calls Try.prog 52 #[.agg #[.int .i64 cn, .int .i64 cs, .int .i64 cy, .int .i64 cb], .agg (worldL ca n cc xs).toArray, .int .i64 L] w (Ret (.tuple #[.slice none 0 0, .int .i64 (askE cn cs cy cb hs xs L)]) w) := PF
  have HH := Lib.hid hH
  have hlw := worldL_len (a := ca) (n := n) (c := cc) hxl
  change Calls _ _ #[_, .agg (worldL ca n cc xs).toArray, _] _ _
  clear PF hH hok hn wx hxl
  generalize worldL ca n cc xs = CS at *
  generalize askE cn cs cy cb hs xs L = E at *
  have hE1 : (E != 0) = true := by simpa using hE
  have HPA := Lib.hid PF'
  have HLW := Lib.hid hlw
  clear PF' hlw hE
  -- F begin
  go_enter Try.func18, Try.ntmps18
  go_wp2_with (first
    | ((with_reducible refine at_wp ?_); refine wpList_load_r rfl 57 _ rfl _ rfl 65 _ Try.underlying57 rfl (by kernel_rfl) (by (simp [go_sem, HLW.out]; done)) ?_; intro C hC; simp [go_sem] at hC; subst hC)
    | (go_at_call 52; refine (HPA.out _ (CachesAt.below HH.out (by repeat (first | exact Below.refl _ _ | apply bs_later | apply bs_alloc | apply bs_drew | apply bs_drewN)))).mono ?_; rintro e w1 ⟨rfl, hb1⟩; obtain ⟨l1, d1, rfl⟩ := later_of hb1; clear hb1))
  go_returns
  exact ⟨rfl, (by repeat (first | exact Below.refl _ _ | apply bs_later | apply bs_alloc | apply bs_drew | apply bs_drewN))⟩
  -- F end

set_option maxHeartbeats 4000000 in
set_option maxRecDepth 100000 in
theorem val_ok (cn cs cy cb : Int) (xs : List Int) (hxl : xs.length = 64) (wx : AllU xs) (hs : List (List R4)) (hok : ∀ h ∈ hs, ∀ r ∈ h, r.Ok) (ca : Option Addr) (n cc : Nat) (w : World) (hn : hs.length = n) (hm : n ≤ maxLen) (hH : CachesAt w ca hs) (L : Nat) (hE : askE cn cs cy cb hs xs L = 0) :
    Calls Try.prog 18 #[.agg #[.int .i64 cn, .int .i64 cs, .int .i64 cy, .int .i64 cb], .agg (worldA ca n cc xs), .int .i64 L] w (Ret (.tuple #[.agg #[.int .u64 (valI xs L (holdL cs hs L) 0), .int .u64 (valI xs L (holdL cs hs L) 1), .int .u64 (valI xs L (holdL cs hs L) 2), .int .u64 (valI xs L (holdL cs hs L) 3)], .int .i64 0]) w) := by
  have PF := fun w h => asked_ok cn cs cy cb xs hxl wx hs hok ca n cc w hn hm h L hE
  have PF' : ∀ w, CachesAt w ca hs → Calls Try.prog 52 #[.agg #[.int .i64 cn, .int .i64 cs, .int .i64 cy, .int .i64 cb], .agg (worldL ca n cc xs).toArray, .int .i64 L] w (AskPost (holdL cs hs L) w) := PF
  obtain ⟨hA, hL⟩ := askE_ok hE
  obtain ⟨hF, _⟩ := agreeP_ok hA
  obtain ⟨hcfg, hlen, hall⟩ := formE_ok hF
  have hcn := hcfg.2.1
  have hl8 : (holdL cs hs L).length ≤ 8 := Nat.le_trans (holdL_len cs L hs) (by omega)
  have PV : ∀ (a : Option Addr) (c : Nat) (w : World), HeldAt w a (holdL cs hs L) → Calls Try.prog 53 #[.agg (worldL ca n cc xs).toArray, .slice a (holdL cs hs L).length c, .int .i64 L] w (Ret (.agg #[.int .u64 (valI xs L (holdL cs hs L) 0), .int .u64 (valI xs L (holdL cs hs L) 1), .int .u64 (valI xs L (holdL cs hs L) 2), .int .u64 (valI xs L (holdL cs hs L) 3)]) w) :=
    fun a c w h => value_any xs hxl (holdL cs hs L) hl8 a c L (by omega) ca n cc w h
  have HH := Lib.hid hH
  have hlw := worldL_len (a := ca) (n := n) (c := cc) hxl
  change Calls _ _ #[_, .agg (worldL ca n cc xs).toArray, _] _ _
  clear PF hH hok hn wx hE hA hF hcfg hlen hall hcn hL hl8
  generalize worldL ca n cc xs = CS at *
  generalize holdL cs hs L = l at *
  generalize valI xs L l 0 = v0 at *
  generalize valI xs L l 1 = v1 at *
  generalize valI xs L l 2 = v2 at *
  generalize valI xs L l 3 = v3 at *
  have HPA := Lib.hid PF'
  have HPV := Lib.hid PV
  have HLW := Lib.hid hlw
  clear PF' PV hlw hxl
  -- G begin
  go_enter Try.func18, Try.ntmps18
  go_wp2_with (first
    | ((with_reducible refine at_wp ?_); refine wpList_load_r rfl 57 _ rfl _ rfl 65 _ Try.underlying57 rfl (by kernel_rfl) (by (simp [go_sem, HLW.out]; done)) ?_; intro C hC; simp [go_sem] at hC; subst hC)
    | (go_at_call 52; refine (HPA.out _ (CachesAt.below HH.out (by repeat (first | exact Below.refl _ _ | apply bs_later | apply bs_alloc | apply bs_drew | apply bs_drewN)))).mono ?_; rintro e w1 ⟨va, vc, rfl, hown, hb1⟩; have HHE := Lib.hid (own_held hown); obtain ⟨l1, d1, rfl⟩ := later_of hb1; clear hb1 hown)
    | (go_at_call 53; refine (HPV.out va vc _ (HeldAt.below HHE.out (by repeat (first | exact Below.refl _ _ | apply bs_later | apply bs_alloc | apply bs_drew | apply bs_drewN)))).mono ?_; rintro e w1 ⟨rfl, hb1⟩; obtain ⟨l2, d2, rfl⟩ := later_of hb1; clear hb1))
  go_returns
  exact ⟨rfl, (by repeat (first | exact Below.refl _ _ | apply bs_later | apply bs_alloc | apply bs_drew | apply bs_drewN))⟩
  -- G end
end Go.Proofs.Ytffhfpdmfegcpac.agree
