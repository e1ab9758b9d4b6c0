/- ringdovelaw.OrderExplains: for every memory and all logs, the law's call returns true. -/
import Derived.Test.YtffhfpdmfegcpabExplain
import Derived.Test.YtffhfpdmfegcpabExplained
import Derived.Test.YtffhfpdmfegcpabEqInt
import Derived.Test.YtffhfpdmfegcpabKnob
namespace Go.Proofs.Ytffhfpdmfegcpab.orderExplains
open Go.ChangeShapes Go.WideShapes Go.ChangeAt Go.RowKit
open Go.ChangeMaps (open_string shut_string)
open Go.Joins (ownsRow_le)
open Go.Proofs.Ytffhfpdmfegcpab.base Go.Proofs.Ytffhfpdmfegcpab.knob Go.Proofs.Ytffhfpdmfegcpab.flat Go.Proofs.Ytffhfpdmfegcpab.same Go.Proofs.Ytffhfpdmfegcpab.addr Go.Proofs.Ytffhfpdmfegcpab.bank Go.Proofs.Ytffhfpdmfegcpab.atomic Go.Proofs.Ytffhfpdmfegcpab.table Go.Proofs.Ytffhfpdmfegcpab.play Go.Proofs.Ytffhfpdmfegcpab.memEq Go.Proofs.Ytffhfpdmfegcpab.told Go.Proofs.Ytffhfpdmfegcpab.turn Go.Proofs.Ytffhfpdmfegcpab.find
set_option linter.unusedVariables false
set_option linter.unusedSimpArgs false

theorem firstK_cong {f g : Nat → Option (List Nat)} : ∀ {n s : Nat}, (∀ k, s ≤ k → k < s + n → f k = g k) → firstK f s n = firstK g s n
  | 0, _, _ => rfl
  | n + 1, s, h => by
    unfold firstK
    rw [h s (by omega) (by omega), firstK_cong fun k h1 h2 => h k (by omega) (by omega)]
theorem search_cong {logs : List (List T5)} : ∀ {n : Nat} {a b : List Nat} {m : List Int}, (∀ k, k < logs.length → a[k]? = b[k]?) → search logs n a m = search logs n b m
  | 0, _, _, _, _ => rfl
  | n + 1, a, b, m, h => by
    rw [search_succ, search_succ]
    refine firstK_cong fun k _ hk => ?_
    have hkl : k < logs.length := by omega
    unfold stepF
    have e1 : stepK logs a m k = stepK logs b m k := by unfold stepK; rw [h k hkl]
    rw [e1]
    cases hs : stepK logs b m k with
    | none => rfl
    | some t =>
      simp only [Option.bind_some]
      have hlt : ∀ j, j < logs.length → (bump a k)[j]? = (bump b k)[j]? := fun j hj => by
        obtain ⟨_, i, _, hb, _, _⟩ := stepK_inv hs
        have ha : a[k]? = some i := by rw [h k hkl]; exact hb
        rw [bump_eq ha, bump_eq hb]
        by_cases e : k = j
        · subst e
          rw [List.getElem?_set_self (List.getElem?_eq_some_iff.1 ha).1, List.getElem?_set_self (List.getElem?_eq_some_iff.1 hb).1]
        · rw [List.getElem?_set_ne e, List.getElem?_set_ne e]; exact h j hj
      rw [search_cong hlt]
theorem search_zeros {logs : List (List T5)} {m : List Int} {n : Nat} (h8 : logs.length ≤ 8) : search logs n (List.replicate logs.length 0) m = search logs n zeros8 m :=
  search_cong fun k hk => by unfold zeros8; rw [List.getElem?_replicate, List.getElem?_replicate, if_pos hk, if_pos (by omega)]
theorem ints_below {k : IntKind} {w w' : World} {a : Option Addr} {xs : List Int} (h : IntsAt k w a xs) (hb : Below w.heap.size w w') : IntsAt k w' a xs := by
  rcases h with h | ⟨b, off, h1, h2⟩
  · exact .inl h
  · refine .inr ⟨b, off, h1, fun i x hx => ?_⟩
    have h3 := h2 i x hx
    rw [hb.cell (p := ⟨b, _, none⟩) (table.lt_of_cell h3)]
    exact h3
def RelS (logs : List (List T5)) (w0 : World) (v i : Value) (wr : World) : Prop :=
  ∃ (k : Nat) (l : Array Obj) (d : Nat), k ≤ logs.length ∧ i = .int .i64 k ∧ v = .int .i64 (sumI (logs.take k)) ∧ wr = w0.later l d

set_option maxHeartbeats 8000000 in
set_option maxRecDepth 100000 in
theorem walk_any (m : List Int) (hm : m.length = 64) (wm : AllU m) (logs : List (List T5)) (hok : ∀ l ∈ logs, ∀ x ∈ l, x.Ok) (la : Option Addr) (n lc : Nat) (w : World) (hn : logs.length = n) (hmx : n ≤ maxLen) (hL : ListsAt ToldsAt w la logs) :
    Calls Try.prog 12 #[.agg (memA m), .slice la n lc] w (Ret (.bool true) w) := by
  have s1 : (memA m).size = 64 := by rw [size_memA, hm]
  obtain ⟨E, hE⟩ : ∃ E, E = explE logs := ⟨_, rfl⟩
  obtain ⟨s, hs⟩ : ∃ s, s = explS m logs := ⟨_, rfl⟩
  have HX : Hid (∀ w, ListsAt ToldsAt w la logs → Calls Try.prog 56 #[.agg (memA m), .slice la n lc] w (ExplPost E s w)) := Lib.hid fun w h => by
    rw [hE, hs]; exact explain_any m hm wm logs hok la n lc w hn hmx h
  have HLL := Lib.hid hL
  have HN := Lib.hid hn
  have HM := Lib.hid hm
  have HOK := Lib.hid hok
  have HE := Lib.hid hE
  have HS := Lib.hid hs
  have HNS : Hid (¬ E = 0 → s = none) := Lib.hid fun h => by rw [hs]; exact if_neg (by rw [← hE]; exact h)
  unfold maxLen at hmx
  clear hL hn hm wm hok hE hs
  go_enter Try.func12, Try.ntmps12
  go_upto_region 3 with (first
    | ((with_reducible refine at_wp ?_); refine wpList_load_r rfl 26 _ rfl _ rfl 64 _ Try.underlying26 rfl (by kernel_rfl) (by (simp [go_sem, s1]; done)) ?_; intro C hC; simp [go_sem] at hC; subst hC)
    | (go_at_call 56; refine (HX.out _ (ListsAt.below (Q := ToldsAt) (fun hb h => ToldsAt.below h hb) HLL.out (by repeat (first | exact Below.refl _ _ | apply bs_later | apply bs_alloc | apply bs_drew | apply bs_drewN)))).mono ?_; rintro e w1 ⟨v, rfl, hown, hb1⟩; obtain ⟨l1, d1, rfl⟩ := later_of hb1; obtain ⟨va, vc, hv⟩ := own_form hown; subst hv; have HO := Lib.hid hown; clear hb1 hown))
  obtain ⟨W1, hW⟩ : ∃ W1, W1 = (w.alloc (.cells (memA m) 26)).later l1 d1 := ⟨_, rfl⟩
  have hb0 : Below w.heap.size w W1 := by rw [hW]; exact (by repeat (first | exact Below.refl _ _ | apply bs_later | apply bs_alloc | apply bs_drew | apply bs_drewN))
  have rM : okRow W1 w.heap.size 64 := by rw [hW]; simp [go_sem, s1]
  have qM : rowOf W1 w.heap.size = memA m := by rw [hW]; simp [go_sem]
  have hO := HO.out
  rw [← hW] at hO
  rw [← hW]
  have HOW := Lib.hid hO
  have HLW := Lib.hid (ListsAt.below (Q := ToldsAt) (fun hb h => ToldsAt.below h hb) HLL.out hb0)
  have HB0 := Lib.hid hb0
  have HQM := Lib.hid qM
  have hinM : inB W1 w.heap.size := okRow_lt rM
  clear hW hb0 qM hO HO HX HLL
  go_wp2
  go_loopw [8, 25] (RelS logs W1) (fun _ i _ => n - (intOf i).toNat)
  case atStart => exact ⟨0, #[], _, Nat.zero_le _, rfl, rfl, later_zero _⟩
  case round =>
    obtain ⟨k, l, d, hk, rfl, rfl, rfl⟩ := hrel
    by_cases hlt : k < n
    · -- A begin
      obtain ⟨lg, hlg⟩ := get_some (xs := logs) (k := k) (by rw [HN.out]; exact hlt)
      obtain ⟨b, off, rfl⟩ := ListsAt.form HLW.out hlg
      obtain ⟨p, pc, e0, q1, q2, q3, q4⟩ := ListsAt.at HLW.out hlg
      have hin : inB W1 b := table.lt_of_cell e0
      have HJ : Hid (k + 1 ≤ logs.length) := Lib.hid (by rw [HN.out]; exact hlt)
      have HSS : Hid (sumI (logs.take (k + 1)) = wrap64 (sumI (logs.take k) + lg.length)) := Lib.hid (by rw [play.take_snoc hlg, sumI_snoc])
      clear hlg hk q3 q4
      generalize sumI (logs.take k) = S at *
      go_wp2
      go_roundw
      case rel => exact ⟨k + 1, _, _, HJ.out, by go_num, by rw [HSS.out], rfl⟩
      case measure => simp [intOf]; omega
      -- A end
    · obtain rfl : k = n := by have := HN.out; omega
      have htk : logs.take k = logs := List.take_of_length_le (by rw [HN.out]; exact Nat.le_refl _)
      rw [htk]
      clear htk hk hlt
      obtain ⟨S, hS⟩ : ∃ S, S = sumI logs := ⟨_, rfl⟩
      rw [← hS]
      have HSM := Lib.hid hS
      clear hS
      by_cases hbig : 8 < k ∨ 12 < S
      · have hE2 : E = 2 := by rw [HE.out]; exact if_pos (by rw [HN.out, ← HSM.out]; exact hbig)
        subst hE2
        have hsn : s = none := HNS.out (by decide)
        subst hsn
        have hil : (iL none).length = 0 := rfl
        rw [hil]
        by_cases h8 : 8 < k
        · -- B begin
          have h8I : (8 : Int) < k := by omega
          have h8B : decide ((8 : Int) < k) = true := by simpa using h8I
          clear hbig HOW hil
          go_wp2
          go_ret
          exact ⟨rfl, range.below_trans HB0.out (by repeat (first | exact Below.refl _ _ | apply bs_later | apply bs_alloc | apply bs_drew | apply bs_drewN))⟩
          -- B end
        · -- C begin
          have h12 : 12 < S := by omega
          have h8I : ¬ (8 : Int) < k := by omega
          have h8B : decide ((8 : Int) < k) = false := by simpa using h8I
          have h12B : decide ((12 : Int) < S) = true := by simpa using h12
          clear hbig HOW hil
          go_wp2
          go_ret
          exact ⟨rfl, range.below_trans HB0.out (by repeat (first | exact Below.refl _ _ | apply bs_later | apply bs_alloc | apply bs_drew | apply bs_drewN))⟩
          -- C end
      · have h8I : ¬ (8 : Int) < k := by omega
        have h8B : decide ((8 : Int) < k) = false := by simpa using h8I
        have h12 : ¬ 12 < S := by omega
        have h12B : decide ((12 : Int) < S) = false := by simpa using h12
        have HEF : Hid (E = firstT 12 logs) := Lib.hid (by rw [HE.out]; exact if_neg (by rw [HN.out, ← HSM.out]; exact hbig))
        clear hbig
        go_wp2
        go_loopw [54] (RelE2 logs W1) (fun i _ => k - (intOf i).toNat)
        case atStart => exact ⟨0, _, _, Nat.zero_le _, rfl, rfl, rfl⟩
        case round =>
          obtain ⟨j, l, d, hj, rfl, h0, rfl⟩ := hrel
          by_cases hlt : j < k
          · obtain ⟨lg, hlg⟩ := get_some (xs := logs) (k := j) (by rw [HN.out]; exact hlt)
            obtain ⟨b, off, hla⟩ := ListsAt.form HLW.out hlg
            subst hla
            obtain ⟨p, pc, e0, q1, q2, q3, q4⟩ := ListsAt.at HLW.out hlg
            have hin : inB W1 b := table.lt_of_cell e0
            have HJ : Hid (j + 1 ≤ logs.length) := Lib.hid (by rw [HN.out]; exact hlt)
            have PC := fun w h => toldFault_any lg 12 (by decide) p lg.length pc w (by unfold maxLen at q2 ⊢; omega) rfl h
            have HQ := Lib.hid q4
            have HF : Hid (firstT 12 (logs.take (j + 1)) = toldE 12 lg) := Lib.hid (by rw [play.take_snoc hlg, firstT_snoc, if_pos h0])
            have HB : Hid (¬ toldE 12 lg = 0 → E = toldE 12 lg) := Lib.hid fun h => by rw [HEF.out]; exact firstT_at hlg h0 h
            clear hlg hj q3 q4 h0
            generalize toldE 12 lg = F at *
            have HC := Lib.hid PC
            clear PC
            by_cases hE : F = 0
            · -- D begin
              subst hE
              have HF2 := Lib.hid HF.out
              clear HF HB
              go_wp2_with (go_at_call 38; refine (HC.out _ (ToldsAt.below HQ.out (by repeat (first | exact Below.refl _ _ | apply bs_later | apply bs_alloc | apply bs_drew | apply bs_drewN)))).mono ?_; rintro e w1 ⟨rfl, hb1⟩; obtain ⟨l1, d1, rfl⟩ := later_of hb1; clear hb1; rw [later_later])
              go_roundw
              case rel => exact ⟨j + 1, _, _, HJ.out, by go_num, HF2.out, rfl⟩
              case measure => simp [intOf]; omega
              -- D end
            · -- F begin
              have hE1 : (F != 0) = true := by simpa using hE
              have hEF : E = F := HB.out hE
              subst hEF
              have hsn : s = none := HNS.out hE
              subst hsn
              have hil : (iL none).length = 0 := rfl
              have hee : (E == E) = true := by simp
              rw [hil]
              clear hE HF HB hil HOW HE HEF
              go_wp2_with (go_at_call 38; refine (HC.out _ (ToldsAt.below HQ.out (by repeat (first | exact Below.refl _ _ | apply bs_later | apply bs_alloc | apply bs_drew | apply bs_drewN)))).mono ?_; rintro e w1 ⟨rfl, hb1⟩; obtain ⟨l1, d1, rfl⟩ := later_of hb1; clear hb1; rw [later_later])
              go_ret
              exact ⟨rfl, range.below_trans HB0.out (by repeat (first | exact Below.refl _ _ | apply bs_later | apply bs_alloc | apply bs_drew | apply bs_drewN))⟩
              -- F end
          · obtain rfl : j = k := by have := HN.out; omega
            have htk : logs.take j = logs := List.take_of_length_le (by rw [HN.out]; exact Nat.le_refl _)
            rw [htk] at h0
            have hE0 : E = 0 := by rw [HEF.out]; exact h0
            have hX0 : explE logs = 0 := by rw [← HE.out]; exact hE0
            obtain ⟨h8', hgood, hsum, hs12⟩ := explE_ok hX0
            have hss : s = search logs (sumN logs) (List.replicate logs.length 0) m := by rw [HS.out, search_zeros h8']; exact if_pos hX0
            have hSn : S = (sumN logs : Int) := by rw [HSM.out, hsum]
            subst hSn
            have HG : Hid (∀ l ∈ logs, l.length ≤ 12 ∧ ∀ x ∈ l, badOf x.d = 0 ∧ x.Ok) := Lib.hid fun l hl => ⟨(hgood l hl).1, fun x hx => ⟨(hgood l hl).2 x hx, HOK.out l hl x hx⟩⟩
            have HXD : Hid (∀ w, ListsAt ToldsAt w la logs → Calls Try.prog 57 #[.agg (memA m), .slice la j lc] w (GoPost s w)) := Lib.hid fun w h => by
              have h1 := explained_any m HM.out logs h8' HG.out hsum hs12 la lc w h
              rw [HN.out, ← HN.out, ← hss] at h1
              rw [← HN.out]
              exact h1
            have HIL : Hid ((iL s).length ≤ maxLen) := Lib.hid (by
              rw [HS.out, show explS m logs = search logs (sumN logs) zeros8 m from if_pos hX0]
              exact iL_small hs12 (left_zeros logs 8) (fit_zeros h8'))
            clear htk h0 hX0 h8' hgood hsum hss HEF HSM HS HE HNS HG HOK
            subst hE0
            by_cases h7 : 7 < sumN logs
            · -- G begin
              have h7I : (7 : Int) < (sumN logs : Int) := by omega
              go_wp2
              go_ret
              exact ⟨rfl, range.below_trans HB0.out (by repeat (first | exact Below.refl _ _ | apply bs_later | apply bs_alloc | apply bs_drew | apply bs_drewN))⟩
              -- G end
            · -- H begin
              have h7I : ¬ (7 : Int) < (sumN logs : Int) := by omega
              have hbb : ∀ z : Bool, (z == z) = true := fun z => by cases z <;> rfl
              obtain ⟨hol, hoi⟩ := own_ints HOW.out
              have HOI := Lib.hid hoi
              clear hol hoi
              go_wp2_with (first
                | ((with_reducible refine at_wp ?_); refine wpList_load_r rfl 26 _ rfl _ rfl 64 _ Try.underlying26 rfl (by kernel_rfl) (by (simp [go_sem, rM, hinM]; done)) ?_; intro C hC; simp [go_sem, hinM, HQM.out] at hC; subst hC)
                | (go_at_call 57; refine (HXD.out _ (ListsAt.below (Q := ToldsAt) (fun hb h => ToldsAt.below h hb) HLW.out (by repeat (first | exact Below.refl _ _ | apply bs_later | apply bs_alloc | apply bs_drew | apply bs_drewN)))).mono ?_; rintro e w1 ⟨v2, rfl, hown2, hb2⟩; obtain ⟨l3, d3, rfl⟩ := later_of hb2; obtain ⟨ua, uc, hv2⟩ := own_form hown2; subst hv2; obtain ⟨hol2, hoi2⟩ := own_ints hown2; have HOI2 := Lib.hid hoi2; clear hb2 hown2 hol2 hoi2)
                | (go_at_call 19; refine (eqInt.equal_same va ua vc uc _ (iL s) (iL s) rfl HIL.out ?g1 HOI2.out).mono ?_; (case g1 => exact ints_below HOI.out (by repeat (first | exact Below.refl _ _ | apply bs_later | apply bs_alloc | apply bs_drew | apply bs_drewN))); rintro e w1 ⟨rfl, nd, rfl⟩; simp only [decide_true]))
              go_ret
              exact ⟨rfl, range.below_trans HB0.out (by repeat (first | exact Below.refl _ _ | apply bs_later | apply bs_alloc | apply bs_drew | apply bs_drewN))⟩
              -- H end

theorem walk {H : Type} {enc : TypeId × Value → H} {dd1 : DataW H} {pp1 : List MemPlace} (xs : List Int) (a : Option Addr) (n c : Nat) (w : World) (hl : xs.length = 64) (wx : ∀ x ∈ xs, (Lit.int .u64 x).wf = true)
    (k1 : DataW.Trod enc Try.prog w 0 (fun _ => true) true 48 (.slice a n c) dd1 pp1) :
    Calls Try.prog 12 #[.agg (xs.map (Value.int .u64)).toArray, .slice a n c] w (Ret (.bool true) w) := by
  obtain ⟨p1, p2, _, ls, hn, hP, hls⟩ := open_lists (Q := ToldsAt) (good := T5.Ok) Try.underlying48 Try.underlying53 (by kernel_rfl) (fun a len cap d ps h => open_tolds (m := 6) Try.underlying53 (by kernel_rfl) (by kernel_rfl) h) k1
  exact walk_any xs hl wx ls hls a n c w hn (Nat.le_trans p1 p2) hP

-- the frame, by program
set_option maxRecDepth 100000 in
theorem lifted (os : Os) (started : os.Started) (H : Type) (enc : TypeId × Value → H) :
    ReturnsInHanded {} Try.checked os 12 .any (Rows.orderExplainsSpec.pre6 enc Try.prog Try.f12 Rows.orderExplainsRow.domain false) (Rows.orderExplainsSpec.post enc Try.prog Try.f12 false true false false) := by
  refine returnsInHanded_of_change (C := Try.checked) own started (by kernel_rfl) Try.func12
    (ChangeSpec.witness6 (enc := enc) (C := Try.checked) false ⟨#[], #[.agg (Array.replicate 64 (.int .u64 0)), .slice none 0 0], []⟩ 8 (by kernel_rfl) (by kernel_rfl) (by kernel_rfl) (by kernel_rfl)) ?_
  intro W base args ds gs before hval0 hW hcnd _
  have hval : ∀ (j : Nat) t v, Try.f12.params[j]? = some t → args[j]? = some v → Value.okWide Try.prog W .any base t v := hval0
  have hW' := hW
  obtain ⟨p, q, hA0, hV, rfl, hfz, hnd⟩ := hW
  have hA : DataW.TrodAll enc Try.prog W 0 (fun _ => true) true Try.f12.params.toList args.toList ds p := hA0
  rw [Try.params12] at hA hval
  obtain ⟨v0, vs0, d0, ds0, p0, q0, hargs, rfl, rfl, h0, r0⟩ := trodAll_cons hA
  obtain ⟨v1, vs1, d1, ds1, p1, q1, rfl, rfl, rfl, h1, r1⟩ := trodAll_cons r0
  obtain ⟨rfl, rfl, rfl⟩ := trodAll_nil r1
  obtain rfl : args = #[v0, v1] := by cases args; simp_all
  obtain ⟨rfl, rfl⟩ := trodVars_none hV
  have k0 := h0
  have lt0 : ∀ x ∈ p0, x.block < W.heap.size := by obtain ⟨m, hm⟩ := k0; exact DataW.trod_lt m _ _ _ hm
  have k1 := h1
  have lt1 : ∀ x ∈ p1, x.block < W.heap.size := by obtain ⟨m, hm⟩ := k1; exact DataW.trod_lt m _ _ _ hm
  obtain ⟨cs0, rfl, al0⟩ := open_flat (n := 4) (List.replicate 64 (.int .u64)) (by kernel_rfl) (by kernel_rfl) (.inr ⟨_, _, Try.underlying26⟩) (hval 0 26 v0 rfl rfl) h0
  obtain ⟨a0, l0, rfl, w0⟩ := all2_ints al0
  obtain ⟨a1, len1, cap1, rfl⟩ := okWide_slice Try.underlying48 (hval 1 48 v1 rfl rfl)
  clear hA0 hval0
  refine (walk a0 a1 len1 cap1 W l0 w0 k1).mono fun e W' ⟨he, bel⟩ => ?_
  subst he
  exact ⟨_, rfl, _, _, _, [], _, [], hW', trodAll_mk1 (shut_bool Try.underlying4 _), (trodAll_cons_mk (Below.trod knob.laidOut (by kernel_rfl) (of_decide_eq_true (by kernel_rfl)) k0 bel lt0) (trodAll_cons_mk (Below.trod knob.laidOut (by kernel_rfl) (of_decide_eq_true (by kernel_rfl)) k1 bel lt1) trodAll_mk0)), rfl, bel.frame _, fun h => by cases h⟩

theorem over : Rows.orderExplainsRow.holds Try.pinned (OpenSpec.ofChange Rows.orderExplainsSpec) :=
  OpenClaim.holds_of_wide 12 Try.f12 rfl rfl rfl rfl rfl rfl rfl ⟨rfl, rfl, rfl, rfl, rfl⟩ rfl rfl rfl rfl rfl (by kernel_rfl) Try.func12 (by kernel_rfl)
    (of_decide_eq_true (by kernel_rfl)) (by unfold Func.isWrapper; first | (rw [if_pos (by decide +kernel)]; kernel_rfl) | (rw [if_neg (by decide +kernel)]; exact ⟨rfl, rfl⟩))
    (fun os started H enc _ => lifted os started H enc)

theorem proved : Rows.OrderExplainsSaid := over

end Go.Proofs.Ytffhfpdmfegcpab.orderExplains
