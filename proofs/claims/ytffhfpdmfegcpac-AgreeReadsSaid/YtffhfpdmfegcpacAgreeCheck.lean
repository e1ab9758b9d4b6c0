/- The contract of agree.check. -/
import Derived.Test.YtffhfpdmfegcpacAgreeHeld
import Derived.Lib.SmallJoins
import Derived.Deep.DeepCutAuto
import Derived.Deep.CutBlock
import Derived.BigQuiet
namespace Go.Proofs.Ytffhfpdmfegcpac.agree
open Go.ChangeShapes Go.WideShapes Go.ChangeAt Go.RowKit
open Go.Proofs.Ytffhfpdmfegcpac.base Go.Proofs.Ytffhfpdmfegcpac.flat Go.Proofs.Ytffhfpdmfegcpac.table Go.Proofs.Ytffhfpdmfegcpac.prog Go.Proofs.Ytffhfpdmfegcpac.same Go.Proofs.Ytffhfpdmfegcpac.addr Go.Proofs.Ytffhfpdmfegcpac.bank Go.Proofs.Ytffhfpdmfegcpac.ways Go.Proofs.Ytffhfpdmfegcpac.state Go.Proofs.Ytffhfpdmfegcpac.turn Go.Proofs.Ytffhfpdmfegcpac.bankMore Go.Proofs.Ytffhfpdmfegcpac.memEq
set_option linter.unusedVariables false
set_option linter.unusedSimpArgs false

def RelK (l : List H7) (w0 : World) (v i : Value) (wr : World) : Prop :=
  ∃ (k : Nat) (o : Array Obj) (d : Nat), k ≤ l.length ∧ v = .bool (ownedL (l.take k)) ∧ i = .int .i64 k ∧ wr = w0.later o d ∧ apartL [] (l.take k) = true
def RelB (l : List H7) (s : Int) (k : Nat) (w0 : World) (i : Value) (wr : World) : Prop :=
  ∃ (j : Nat) (o : Array Obj) (d : Nat), j ≤ k ∧ i = .int .i64 j ∧ wr = w0.later o d ∧ ∀ (m : Nat) (y : H7), m < j → l[m]? = some y → besideB s y.x.s = true
def RelF (xs : List Int) (L : Nat) (l : List H7) (w0 : World) (i : Value) (wr : World) : Prop :=
  ∃ (k : Nat) (o : Array Obj) (d : Nat), k ≤ l.length ∧ i = .int .i64 k ∧ wr = w0.later o d ∧ ∀ (m : Nat) (y : H7), m < k → l[m]? = some y → fit1 xs L l y = true

theorem later_mid (w : World) (o : Array Obj) (d : Nat) (x : Obj) (o' : Array Obj) (d' : Nat) : ((w.later o d).alloc x).later o' d' = w.later (o.push x ++ o') d' := by
  rw [later_alloc, later_later]
theorem drewN_al (w : World) (o : Array Obj) (d : Nat) (x : Obj) (k : Nat) : ((w.later o d).alloc x).drewN k = w.later (o.push x) (d + k) := by
  rw [later_alloc]; rfl
set_option maxHeartbeats 8000000 in
set_option maxRecDepth 100000 in
theorem chk_any (xs : List Int) (hxl : xs.length = 64) (wx : AllU xs) (l : List H7) (hlok : ∀ y ∈ l, y.x.Ok) (hlm : l.length ≤ 8) (a : Option Addr) (c : Nat) (hc : l.length ≤ c) (L : Nat) (hL : L < 16) (ca : Option Addr) (n cc : Nat) (w : World) (hH : HeldAt w a l) :
    Calls Try.prog 81 #[.agg (worldA ca n cc xs), .slice a l.length c, .int .i64 L] w (Ret (.int .i64 (chkE xs L l)) w) := by
  have m0 := worldA_word (ca := ca) (n := n) (cc := cc) hxl (i := L * 4) (by omega)
  have m1 : (worldA ca n cc xs)[1 + L * 4 + 1]? = some (.int .u64 (wordAt xs (L * 4 + 1))) := worldA_word (ca := ca) (n := n) (cc := cc) hxl (i := L * 4 + 1) (by omega)
  have m2 : (worldA ca n cc xs)[1 + L * 4 + 2]? = some (.int .u64 (wordAt xs (L * 4 + 2))) := worldA_word (ca := ca) (n := n) (cc := cc) hxl (i := L * 4 + 2) (by omega)
  have m3 : (worldA ca n cc xs)[1 + L * 4 + 3]? = some (.int .u64 (wordAt xs (L * 4 + 3))) := worldA_word (ca := ca) (n := n) (cc := cc) hxl (i := L * 4 + 3) (by omega)
  have hsz := worldA_size (a := ca) (n := n) (c := cc) hxl
  have hLE := lineL_eq hxl hL
  have w0 := wordAt_wf wx (L * 4)
  have w1 := wordAt_wf wx (L * 4 + 1)
  have w2 := wordAt_wf wx (L * 4 + 2)
  have w3 := wordAt_wf wx (L * 4 + 3)
  generalize worldA ca n cc xs = A at *
  generalize wordAt xs (L * 4) = y0 at *
  generalize wordAt xs (L * 4 + 1) = y1 at *
  generalize wordAt xs (L * 4 + 2) = y2 at *
  generalize wordAt xs (L * 4 + 3) = y3 at *
  have HLE := Lib.hid hLE
  have HH := Lib.hid hH
  have HOK := Lib.hid hlok
  have HWY : Hid ((Lit.int .u64 y0).wf = true ∧ (Lit.int .u64 y1).wf = true ∧ (Lit.int .u64 y2).wf = true ∧ (Lit.int .u64 y3).wf = true) := Lib.hid ⟨w0, w1, w2, w3⟩
  obtain ⟨N, hN⟩ : ∃ N, N = l.length := ⟨_, rfl⟩
  have HN := Lib.hid hN
  rw [← hN] at hc hlm ⊢
  have hL16 : (L : Int) < 16 := by omega
  clear hLE hH hlok w0 w1 w2 w3 wx hxl hN
  go_enter Try.func81, Try.ntmps81
  go_wp2
  go_loopw [7, 16] (RelK l (w.alloc (.cells A 57))) (fun _ i _ => N - (intOf i).toNat)
  case atStart => exact ⟨0, #[], _, Nat.zero_le _, rfl, rfl, later_zero _, rfl⟩
  case round =>
    obtain ⟨k, o, d, hk, rfl, rfl, rfl, hap⟩ := hrel
    by_cases hlt : k < N
    · obtain ⟨x, hx⟩ := get_some (xs := l) (k := k) (by rw [← HN.out]; exact hlt)
      obtain ⟨b, off, rfl⟩ := HeldAt.form HH.out hx
      obtain ⟨e0, e1, e2, e3, e4, e5, e6⟩ := HeldAt.at HH.out hx
      have hinb : inB w b := table.lt_of_cell e0
      have hos := owned_step hx
      have HX := Lib.hid hx
      have HAP := Lib.hid hap
      have HOS := Lib.hid hos
      have HJ : Hid (k + 1 ≤ l.length) := Lib.hid (by rw [← HN.out]; exact hlt)
      have hkI : (k : Int) < N := by omega
      have hkc : k ≤ c := by omega
      have hkcI : (k : Int) ≤ c := by omega
      have HXS : Hid (∀ (s : Int), s = x.x.s → x.x.s = s) := Lib.hid fun s h => h.symm
      obtain ⟨xs0, hxs0⟩ : ∃ s, s = x.x.s := ⟨_, rfl⟩
      have HS0 := Lib.hid hxs0
      generalize x.x.l = x1 at *
      generalize x.x.a = xa at *
      generalize x.x.b = xb at *
      generalize x.x.c = xc at *
      generalize x.x.d = xd at *
      rw [← hxs0] at e1
      generalize hnode : (x.node : Int) = nd at *
      generalize how : ownedL (l.take k) = ow at *
      clear hx hap hos hk hnode hxs0 HXS
      -- A begin
      go_upto_region 6 with (fail)
      go_loopw [25] (RelB l xs0 k (((w.alloc (.cells A 57)).later o d).alloc (.cells #[.int .i64 nd, .int .i64 xs0, .int .i64 x1, .int .u64 xa, .int .u64 xb, .int .u64 xc, .int .u64 xd] 126))) (fun i _ => k - (intOf i).toNat)
      case atStart => exact ⟨0, #[], _, Nat.zero_le _, rfl, later_zero _, fun m y h => absurd h (Nat.not_lt_zero _)⟩
      case round =>
        obtain ⟨j, o2, d2, hj, rfl, rfl, hall⟩ := hrel
        by_cases hjk : j < k
        · -- B begin
          obtain ⟨y, hy⟩ := get_some (xs := l) (k := j) (by have := HJ.out; omega)
          obtain ⟨f0, f1, f2, f3, f4, f5, f6⟩ := HeldAt.at HH.out hy
          have hjI : (j : Int) < k := by omega
          have HY := Lib.hid hy
          have HALL := Lib.hid hall
          have HJ2 : Hid (j + 1 ≤ k) := Lib.hid hjk
          obtain ⟨ys, hys⟩ : ∃ s, s = y.x.s := ⟨_, rfl⟩
          rw [← hys] at f1
          have PB := fun w => beside_any xs0 ys w
          obtain ⟨bb, hbb⟩ : ∃ bb, bb = besideB xs0 ys := ⟨_, rfl⟩
          rw [← hbb] at PB
          have HPB := Lib.hid PB
          rw [hys] at hbb
          have HBB := Lib.hid hbb
          generalize y.x.l = g1 at *
          generalize y.x.a = ga at *
          generalize y.x.b = gb at *
          generalize y.x.c = gc at *
          generalize y.x.d = gd at *
          generalize (y.node : Int) = ng at *
          clear hy hall hj hys PB hbb
          cases bb
          · go_wp2_with (go_at_call 13; refine (HPB.out _).mono ?_; rintro e w1 ⟨rfl, hb1⟩; obtain ⟨l1, d1, rfl⟩ := later_of hb1; clear hb1)
            go_ret
            exact ⟨congrArg (fun z => Ending.returned (Value.int .i64 z)) (chk_8 (apart_bad HX.out HY.out hjk (by rw [← HS0.out]; exact HBB.out.symm))).symm, (by repeat (first | exact Below.refl _ _ | apply bs_later | apply bs_alloc | apply bs_drew | apply bs_drewN))⟩
          · go_wp2_with (go_at_call 13; refine (HPB.out _).mono ?_; rintro e w1 ⟨rfl, hb1⟩; obtain ⟨l1, d1, rfl⟩ := later_of hb1; clear hb1)
            go_roundw
            case rel => exact ⟨j + 1, _, _, HJ2.out, by go_num, later_mid _ _ _ _ _ _, fun m z hm hz => by
              rcases Nat.lt_succ_iff_lt_or_eq.1 hm with h | rfl
              · exact HALL.out m z h hz
              · obtain rfl := Option.some.inj (HY.out.symm.trans hz)
                exact HBB.out.symm⟩
            case measure => simp [intOf]; omega
          -- B end
        · -- C begin
          obtain rfl : j = k := by omega
          have hap1 := apart_step HX.out HAP.out (fun m y hm hy => by rw [← HS0.out]; exact hall m y hm hy)
          have HA1 := Lib.hid hap1
          have PO := fun w => owns_any xs0 w
          obtain ⟨oo, hoo⟩ : ∃ oo, oo = amongB xs0 [3, 4] := ⟨_, rfl⟩
          rw [← hoo] at PO
          have HPO := Lib.hid PO
          have HO2 := Lib.hid (show ownedL (l.take (j + 1)) = (ow || oo) by rw [HOS.out, hoo, HS0.out])
          clear hap1 hall PO hoo hj hjk
          cases ow
          · go_wp2_with (go_at_call 54; refine (HPO.out _).mono ?_; rintro e w1 ⟨rfl, hb1⟩; obtain ⟨l1, d1, rfl⟩ := later_of hb1; clear hb1; rw [later_later])
            go_roundw
            case rel => exact ⟨j + 1, _, _, HJ.out, by rw [HO2.out, Bool.false_or], by go_num, later_mid _ _ _ _ _ _, HA1.out⟩
            case measure => simp [intOf]; omega
          · go_wp2
            go_roundw
            case rel => exact ⟨j + 1, _, _, HJ.out, by rw [HO2.out, Bool.true_or], by go_num, later_mid _ _ _ _ _ _, HA1.out⟩
            case measure => simp [intOf]; omega
          -- C end
      -- A end
    · obtain rfl : k = N := by have := HN.out; omega
      rw [List.take_of_length_le (by rw [← HN.out]; exact Nat.le_refl _)] at hap ⊢
      have HAP := Lib.hid hap
      obtain ⟨ow, how⟩ : ∃ ow, ow = ownedL l := ⟨_, rfl⟩
      have HOW := Lib.hid how
      rw [← how]
      clear hap how hk hlt
      -- D begin
      go_wp2
      go_loopw [48] (RelF xs L l ((w.alloc (.cells A 57)).later o d)) (fun i _ => k - (intOf i).toNat)
      case atStart => exact ⟨0, #[], _, Nat.zero_le _, rfl, later_zero _, fun m y h => absurd h (Nat.not_lt_zero _)⟩
      case round =>
        obtain ⟨i, o2, d2, hi, rfl, rfl, hall⟩ := hrel
        by_cases hik : i < k
        · obtain ⟨x, hx⟩ := get_some (xs := l) (k := i) (by rw [← HN.out]; exact hik)
          obtain ⟨z, hz⟩ := get_some (xs := l) (k := 0) (by rw [← HN.out]; omega)
          obtain ⟨b, off, rfl⟩ := HeldAt.form HH.out hx
          obtain ⟨e0, e1, e2, e3, e4, e5, e6⟩ := HeldAt.at HH.out hx
          obtain ⟨g0, g1, g2, g3, g4, g5, g6⟩ := HeldAt.at HH.out hz
          simp only [Nat.zero_mul, Nat.add_zero] at g0 g1 g2 g3 g4 g5 g6
          have hinb : inB w b := table.lt_of_cell e0
          obtain ⟨hwx0, hwx1, hwa, hwb, hwc, hwd⟩ := HOK.out x (List.mem_of_getElem? hx)
          obtain ⟨hwz0, hwz1, gwa, gwb, gwc, gwd⟩ := HOK.out z (List.mem_of_getElem? hz)
          obtain ⟨wy0, wy1, wy2, wy3⟩ := HWY.out
          have hq := eq_line x.x.a x.x.b x.x.c x.x.d z.x.a z.x.b z.x.c z.x.d hwa hwb hwc hwd gwa gwb gwc gwd
          have hr := eq_line x.x.a x.x.b x.x.c x.x.d y0 y1 y2 y3 hwa hwb hwc hwd wy0 wy1 wy2 wy3
          have hhead : headL l = dataL z.x := by
            cases l with
            | nil => simp at hz
            | cons h t => obtain rfl : h = z := by simpa using hz
                          rfl
          have hfit : fit1 xs L l x = (decide (dataL x.x = dataL z.x) && (ownedL l || decide (dataL x.x = lineL xs L))) := by unfold fit1; rw [hhead]
          rw [HLE.out, ← HOW.out] at hfit
          have HX := Lib.hid hx
          have HALL := Lib.hid hall
          have HJ : Hid (i + 1 ≤ l.length) := Lib.hid (by rw [← HN.out]; exact hik)
          have hiI : (i : Int) < k := by omega
          have hkI : (0 : Int) < k := by omega
          have hk0 : 0 < k := by omega
          change fit1 xs L l x = (decide ([x.x.a, x.x.b, x.x.c, x.x.d] = [z.x.a, z.x.b, z.x.c, z.x.d]) && (ow || decide ([x.x.a, x.x.b, x.x.c, x.x.d] = [y0, y1, y2, y3]))) at hfit
          generalize decide ([x.x.a, x.x.b, x.x.c, x.x.d] = [z.x.a, z.x.b, z.x.c, z.x.d]) = q1 at *
          generalize decide ([x.x.a, x.x.b, x.x.c, x.x.d] = [y0, y1, y2, y3]) = q2 at *
          have HFIT := Lib.hid hfit
          generalize x.x.s = xs0 at *
          generalize x.x.l = x1 at *
          generalize x.x.a = xa at *
          generalize x.x.b = xb at *
          generalize x.x.c = xc at *
          generalize x.x.d = xd at *
          generalize (x.node : Int) = nd at *
          generalize z.x.a = za at *
          generalize z.x.b = zb at *
          generalize z.x.c = zc at *
          generalize z.x.d = zd at *
          clear hx hz hall hi hhead hfit hwx0 hwx1 hwa hwb hwc hwd hwz0 hwz1 gwa gwb gwc gwd wy0 wy1 wy2 wy3
          cases q1
          · -- E begin
            go_upto_region 16 with (fail)
            go_quiet (fail)
            go_wp2
            go_ret
            exact ⟨congrArg (fun z => Ending.returned (Value.int .i64 z)) (chk_3 HAP.out HX.out (by rw [HFIT.out]; rfl)).symm, (by repeat (first | exact Below.refl _ _ | apply bs_later | apply bs_alloc | apply bs_drew | apply bs_drewN))⟩
            -- E end
          · cases ow
            · cases q2
              · -- F begin
                go_upto_region 16 with (fail)
                go_quiet (fail)
                go_wp2
                go_ret
                exact ⟨congrArg (fun z => Ending.returned (Value.int .i64 z)) (chk_3 HAP.out HX.out (by rw [HFIT.out]; rfl)).symm, (by repeat (first | exact Below.refl _ _ | apply bs_later | apply bs_alloc | apply bs_drew | apply bs_drewN))⟩
                -- F end
              · -- G begin
                go_upto_region 16 with (fail)
                go_quiet (fail)
                go_wp2
                go_roundw
                case rel => exact ⟨i + 1, _, _, HJ.out, by go_num, drewN_al _ _ _ _ _, fun m y hm hy => by
                  rcases Nat.lt_succ_iff_lt_or_eq.1 hm with h | rfl
                  · exact HALL.out m y h hy
                  · obtain rfl := Option.some.inj (HX.out.symm.trans hy)
                    rw [HFIT.out]; rfl⟩
                case measure => simp [intOf]; omega
                -- G end
            · -- H begin
              go_upto_region 16 with (fail)
              go_quiet (fail)
              go_wp2
              go_roundw
              case rel => exact ⟨i + 1, _, _, HJ.out, by go_num, drewN_al _ _ _ _ _, fun m y hm hy => by
                rcases Nat.lt_succ_iff_lt_or_eq.1 hm with h | rfl
                · exact HALL.out m y h hy
                · obtain rfl := Option.some.inj (HX.out.symm.trans hy)
                  rw [HFIT.out]; rfl⟩
              case measure => simp [intOf]; omega
              -- H end
        · obtain rfl : i = k := by have := HN.out; omega
          have h0 := chk_0 (xs := xs) (L := L) HAP.out (fun m y hm hy => hall m y (by rw [HN.out]; exact hm) hy)
          have H0 := Lib.hid h0
          clear hall h0 hik hi
          go_wp2
          go_ret
          exact ⟨congrArg (fun z => Ending.returned (Value.int .i64 z)) H0.out.symm, (by repeat (first | exact Below.refl _ _ | apply bs_later | apply bs_alloc | apply bs_drew | apply bs_drewN))⟩
      -- D end
end Go.Proofs.Ytffhfpdmfegcpac.agree
