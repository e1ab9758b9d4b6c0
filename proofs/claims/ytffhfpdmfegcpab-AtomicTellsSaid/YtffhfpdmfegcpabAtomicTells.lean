/- ringdovelaw.AtomicTells: for every memory, every deed and every list of deeds, the call returns true. -/
import Derived.Test.YtffhfpdmfegcpabPlayAny
import Derived.Test.YtffhfpdmfegcpabRefAtomic
import Derived.Test.YtffhfpdmfegcpabRefDeed
import Derived.Test.YtffhfpdmfegcpabEqU64
import Derived.Test.YtffhfpdmfegcpabRun3
import Derived.Test.YtffhfpdmfegcpabTable2
import Derived.Deep.DeepCutAuto
namespace Go.Proofs.Ytffhfpdmfegcpab.atomicTells
open Go.ChangeShapes Go.WideShapes Go.ChangeAt Go.RowKit
open Go.Joins (ownsRow_le)
open Go.ChangeMaps (open_string shut_string)
open Go.Proofs.Ytffhfpdmfegcpab.base Go.Proofs.Ytffhfpdmfegcpab.knob Go.Proofs.Ytffhfpdmfegcpab.flat Go.Proofs.Ytffhfpdmfegcpab.same Go.Proofs.Ytffhfpdmfegcpab.addr Go.Proofs.Ytffhfpdmfegcpab.bank Go.Proofs.Ytffhfpdmfegcpab.bankSame Go.Proofs.Ytffhfpdmfegcpab.atomic Go.Proofs.Ytffhfpdmfegcpab.table Go.Proofs.Ytffhfpdmfegcpab.play Go.Proofs.Ytffhfpdmfegcpab.memEq Go.Proofs.Ytffhfpdmfegcpab.run3 Go.Proofs.Ytffhfpdmfegcpab.refAtomic Go.Proofs.Ytffhfpdmfegcpab.refDeed
set_option linter.unusedVariables false
set_option linter.unusedSimpArgs false

def s0 (xs : List Int) (ds : List D4) : S3 := ⟨if 200 < ds.length then 2 else 0, xs, []⟩
theorem s0_bad (xs : List Int) (ds : List D4) : (run3 (s0 xs ds) ds).bad = playE ds := by
  unfold s0 playE
  by_cases h : 200 < ds.length
  · rw [if_pos h, if_pos h, run3_bad (by simp)]
  · rw [if_neg h, if_neg h]
    exact (run3_ok rfl ds).1
theorem s0_ok (xs : List Int) (ds : List D4) (h : playE ds = 0) : (run3 (s0 xs ds) ds).m = outM xs ds ∧ (run3 (s0 xs ds) ds).vs = outV xs ds := by
  unfold outM outV
  rw [if_pos h, if_pos h]
  unfold playE at h
  by_cases h2 : 200 < ds.length
  · rw [if_pos h2] at h; omega
  · rw [if_neg h2] at h
    obtain ⟨h3, h4⟩ := (run3_ok (s := s0 xs ds) (by unfold s0; rw [if_neg h2]) ds).2 h
    exact ⟨h3, by rw [h4]; rfl⟩
theorem s0_vlen (xs : List Int) (ds : List D4) (k : Nat) : (run3 (s0 xs ds) (ds.take k)).vs.length ≤ 200 := by
  have h := run3_vlen (s0 xs ds) (ds.take k)
  by_cases h2 : 200 < ds.length
  · rw [run3_vlen_bad (by unfold s0; rw [if_pos h2]; simp)]; simp [s0]
  · have : (ds.take k).length ≤ ds.length := List.length_take_le' _ _
    have h3 : (s0 xs ds).vs.length = 0 := rfl
    omega
def Rel (xs : List Int) (ds : List D4) (W0 : World) (b v i : Value) (wr : World) : Prop :=
  ∃ (k : Nat) (l : Array Obj) (d n : Nat), k ≤ ds.length ∧ i = .int .i64 k ∧ b = .int .i64 (run3 (s0 xs ds) (ds.take k)).bad ∧ wr = (W0.alloc (.cells (memA (run3 (s0 xs ds) (ds.take k)).m) 26)).later l d ∧ (run3 (s0 xs ds) (ds.take k)).vs.length = n ∧
    wr.ownsRow (W0.heap.size + 1) 22 1 v n ((run3 (s0 xs ds) (ds.take k)).vs.map (Value.int .u64))

/-- what stands when the single deed has been looked at -/
def Mid (xs om ov : List Int) (w : World) (s3 s10 s11 s13 : Value) (wx : World) : Prop :=
  ∃ (b3 b10 b13 pc : Nat) (pa : Option Addr), s3 = .pointer (some ⟨b3, 0, none⟩) ∧ s10 = .pointer (some ⟨b10, 0, none⟩) ∧ s13 = .pointer (some ⟨b13, 0, none⟩) ∧ s11 = .slice pa ov.length pc ∧ IntsAt .u64 wx pa ov ∧ Below w.heap.size w wx ∧
    (okRow wx b3 64 ∧ rowOf wx b3 = memA xs) ∧ (okRow wx b10 64 ∧ rowOf wx b10 = memA om) ∧ okRow wx b13 64 ∧ rowOf wx b13 = memA zeroXs

theorem Do_any (xs : List Int) (hl : xs.length = 64) (n k a v : Int) : ∃ zm zv, (rightE n k a v = 0 → zm = plainM xs k a v ∧ zv = plainV xs k a) ∧ (¬ rightE n k a v = 0 → zm = zeroXs ∧ zv = 0) ∧ zm.length = 64 ∧
    ∀ w, Calls Try.prog 26 #[.agg (memA xs), .agg #[.int .i64 n, .int .i64 k, .int .i64 a, .int .u64 v]] w (Ret (.tuple #[.agg (memA zm), .int .u64 zv, .int .i64 (rightE n k a v)]) w) := by
  by_cases h : rightE n k a v = 0
  · refine ⟨plainM xs k a v, plainV xs k a, fun _ => ⟨rfl, rfl⟩, fun h' => absurd h h', by rw [plainM_len, hl], fun w => ?_⟩
    rw [h]; exact Do_ok xs hl n k a v w h
  · exact ⟨zeroXs, 0, fun h' => absurd h' h, fun _ => ⟨rfl, rfl⟩, zeroXs_len, fun w => Do_bad xs hl n k a v w h⟩

set_option maxHeartbeats 8000000 in
set_option maxRecDepth 100000 in
theorem walk_any (xs : List Int) (hl : xs.length = 64) (wx : AllU xs) (xn xk xa xv : Int) (wv : (Lit.int .u64 xv).wf = true) (ds : List D4) (hok : ∀ x ∈ ds, x.Ok) (a : Option Addr) (n c : Nat) (w : World) (hm : n ≤ maxLen) (hd : ds.length = n) (h : DeedsAt w a ds) :
    Calls Try.prog 5 #[.agg (memA xs), .agg #[.int .i64 xn, .int .i64 xk, .int .i64 xa, .int .u64 xv], .slice a n c] w (Ret (.bool true) w) := by
  obtain ⟨zm, zv, hzok, hzbad, hzl, PD⟩ := Do_any xs hl xn xk xa xv
  have PR := fun w (hg : rightE xn xk xa xv = 0) => plain_ok xs hl xn xk xa xv w (right_pos hg).2.1 (right_pos hg).2.2.1.1 (right_pos hg).2.2.1.2
  have PP := fun w (h : DeedsAt w a ds) => play_any xs hl ds a n c w hm hd h
  have hz := run_same_mem zeroXs zeroXs_len zeroXs_wf
  have hpm := run_same_mem (plainM xs xk xa xv) (by rw [plainM_len, hl]) (plainM_wf wx _ _ wv)
  have s1 : (memA xs).size = 64 := by rw [size_memA, hl]
  have s2 : (memA zeroXs).size = 64 := by rw [size_memA, zeroXs_len]
  have s3 : (memA zm).size = 64 := by rw [size_memA, hzl]
  have s4 : (memA (outM xs ds)).size = 64 := by rw [size_memA, outM_len hl]
  have hm' := hm
  unfold maxLen at hm'
  have HD := Lib.hid PD
  have HR := Lib.hid PR
  have HP := Lib.hid PP
  have HL := Lib.hid hl
  have HDL := Lib.hid hd
  have HZO := Lib.hid hzok
  have HZB := Lib.hid hzbad
  have HPM := Lib.hid hpm
  have hom0 : AllU (outM xs ds) := by
    unfold outM
    split
    · exact playM_wf wx hok
    · exact zeroXs_wf
  have HPO := Lib.hid (run_same_mem (outM xs ds) (outM_len hl ds) hom0)
  clear hom0
  have HDS := Lib.hid h
  have hvl : (outV xs ds).length ≤ 200 := outV_len xs ds
  generalize hom : outM xs ds = om at *
  generalize hov : outV xs ds = ov at *
  generalize hx0 : rightE xn xk xa xv = x0 at *
  have HX0 := Lib.hid hx0
  have HOM := Lib.hid hom
  have HOV := Lib.hid hov
  clear PD PR PP hl hd hzok hzbad hpm hom hov h hzl hx0
  obtain ⟨b0, hb0⟩ : ∃ b0 : Int, (if 200 < ds.length then (2 : Int) else 0) = b0 := ⟨_, rfl⟩
  have HS0 : Hid (Value.int .i64 b0 = Value.int .i64 (run3 (s0 xs ds) (ds.take 0)).bad) := Lib.hid (by rw [← hb0]; rfl)
  have HB0 := Lib.hid hb0
  clear hb0
  go_enter Try.func5, Try.ntmps5
  go_upto_if 44 with (first
    | (refine wpList_load_r rfl 26 _ rfl _ rfl 64 _ Try.underlying26 rfl (by kernel_rfl) (by (simp [go_sem, s1, s2, s3, s4]; done)) ?_; intro C hC; simp [go_sem] at hC; subst hC)
    | (refine wpList_store_r rfl 26 _ _ rfl _ rfl (memA zeroXs) (congrArg Value.agg zero_is) 64 (by kernel_rfl) (by (simp [go_sem, s1, s2, s3, s4]; done)) (by (simp [s1, s2, s3, s4]; done)) (memA_one _) ?_; intro W hW; simp [go_sem] at hW; subst hW)
    | (refine wpList_store_r rfl 26 _ _ rfl _ rfl _ rfl 64 (by kernel_rfl) (by (simp [go_sem, s1, s2, s3, s4]; done)) (by (simp [s1, s2, s3, s4]; done)) (memA_one _) ?_; intro W hW; simp [go_sem] at hW; subst hW)
    | (go_at_call 26; refine (HD.out _).mono ?_; rintro e w1 ⟨rfl, hb1⟩; obtain ⟨l1, d1, rfl⟩ := later_of hb1; clear hb1)
    | (go_at_call 27; refine (HP.out _ (DeedsAt.below HDS.out (by repeat (first | exact Below.refl _ _ | apply bs_later | apply bs_alloc | apply bs_drew | apply bs_drewN)))).mono ?_; rintro e w1 ⟨pv, rfl, hown, hb1⟩; obtain ⟨l2, d2, rfl⟩ := later_of hb1; have HO := Lib.hid hown; obtain ⟨pa, pc, hpv⟩ := own_form hown; subst hpv; clear hb1 hown)
    | (go_at_call 29; refine (right_any _ _ _ _ _).mono ?_; rintro e w1 ⟨rfl, hb1⟩; rw [HX0.out]; obtain ⟨l3, d3, rfl⟩ := later_of hb1; clear hb1)
    | (go_at_call 28; refine (deedFault_any _ _ _ _ _).mono ?_; rintro e w1 ⟨rfl, hb1⟩; rw [HX0.out]; obtain ⟨l4, d4, rfl⟩ := later_of hb1; clear hb1))
  go_cut [3, 10, 11, 13] (fun c3 c10 c11 c13 wx => Mid xs om ov w c3 c10 c11 c13 wx)
  case first =>
    by_cases hx : x0 = 0
    · obtain ⟨rfl, rfl⟩ := HZO.out hx
      have HX := Lib.hid hx
      have hpm := HPM.out
      have hx' : (x0 != 0) = false := by simpa using hx
      have PL := fun w => HR.out w hx
      generalize plainM xs xk xa xv = zm at *
      generalize plainV xs xk xa = zv at *
      have HPL := Lib.hid PL
      clear PL hx
      go_wp2_with (first
        | (refine wpList_load_r rfl 26 _ rfl _ rfl 64 _ Try.underlying26 rfl (by kernel_rfl) (by (simp [go_sem, s1, s2, s3, s4]; done)) ?_; intro C hC; simp [go_sem] at hC; subst hC)
        | (refine wpList_store_r rfl 26 _ _ rfl _ rfl _ rfl 64 (by kernel_rfl) (by (simp [go_sem, s1, s2, s3, s4]; done)) (by (simp [s1, s2, s3, s4]; done)) (memA_one _) ?_; intro W hW; simp [go_sem] at hW; subst hW)
        | (go_at_call 30; refine (HPL.out _).mono ?_; rintro e w1 ⟨rfl, hb1⟩; obtain ⟨l5, d5, rfl⟩ := later_of hb1; clear hb1))
      go_meet
      case rel =>
        exact ⟨_, _, _, _, _, rfl, rfl, rfl, rfl, (own_ints HO.out).2.below (by repeat (first | exact Below.refl _ _ | apply bs_later | apply bs_alloc | apply bs_drew | apply bs_drewN)), (by repeat (first | exact Below.refl _ _ | apply bs_later | apply bs_alloc | apply bs_drew | apply bs_drewN)),
          ⟨by simp [go_sem, s1], by simp [go_sem]⟩, ⟨by simp [go_sem, s4], by simp [go_sem]⟩, by simp [go_sem, s2], by simp [go_sem]⟩
    · obtain ⟨rfl, rfl⟩ := HZB.out hx
      have hx' : (x0 != 0) = true := by simpa using hx
      clear hx
      go_wp2_with (first
        | (refine wpList_load_r rfl 26 _ rfl _ rfl 64 _ Try.underlying26 rfl (by kernel_rfl) (by (simp [go_sem, s1, s2, s3, s4]; done)) ?_; intro C hC; simp [go_sem] at hC; subst hC)
        | (refine wpList_store_r rfl 26 _ _ rfl _ rfl _ rfl 64 (by kernel_rfl) (by (simp [go_sem, s1, s2, s3, s4]; done)) (by (simp [s1, s2, s3, s4]; done)) (memA_one _) ?_; intro W hW; simp [go_sem] at hW; subst hW))
      go_meet
      case rel =>
        exact ⟨_, _, _, _, _, rfl, rfl, rfl, rfl, (own_ints HO.out).2.below (by repeat (first | exact Below.refl _ _ | apply bs_later | apply bs_alloc | apply bs_drew | apply bs_drewN)), (by repeat (first | exact Below.refl _ _ | apply bs_later | apply bs_alloc | apply bs_drew | apply bs_drewN)),
          ⟨by simp [go_sem, s1], by simp [go_sem]⟩, ⟨by simp [go_sem, s4], by simp [go_sem]⟩, by simp [go_sem, s2], by simp [go_sem]⟩
  case rest =>
    obtain ⟨b3, b10, b13, pc, pa, rfl, rfl, rfl, rfl, hia, hbw, ⟨r3, q3⟩, ⟨r10, q10⟩, r13, q13⟩ := hcut
    have i3 : inB wc b3 := okRow_lt r3
    have i10 : inB wc b10 := okRow_lt r10
    have i13 : inB wc b13 := okRow_lt r13
    have hds := HDS.out.below hbw
    obtain ⟨i0, hi, hz0, hz1, hz2⟩ := info_parts info_u64
    have Q3 := Lib.hid q3
    have Q10 := Lib.hid q10
    have Q13 := Lib.hid q13
    clear q3 q10 q13
    by_cases hn : (200 : Int) < n
    case' pos => obtain rfl : b0 = 2 := by rw [← HB0.out, if_pos (by rw [HDL.out]; omega)]
    case' neg => obtain rfl : b0 = 0 := by rw [← HB0.out, if_neg (by rw [HDL.out]; omega)]
    all_goals
      have q3 := Q3.out
      go_wp2_with (first
        | (refine wpList_load_r rfl 26 _ rfl _ rfl 64 _ Try.underlying26 rfl (by kernel_rfl) (by (simp [go_sem, r3, q3, s1]; done)) ?_; intro C hC; simp [go_sem, q3] at hC; subst hC)
        | (refine wpList_store_r rfl 26 _ _ rfl _ rfl _ rfl 64 (by kernel_rfl) (by (simp [go_sem, s1]; done)) (by (simp [s1]; done)) (memA_one _) ?_; intro W hW; simp [go_sem] at hW; subst hW))
      clear q3
      go_loopw [14, 18, 81] (Rel xs ds wc) (fun _ _ i _ => n - (intOf i).toNat)
      case atStart => exact ⟨0, #[], _, 0, by omega, rfl, HS0.out, later_zero _, rfl, World.ownsRow_nil _ _ _ _⟩
      case round =>
        obtain ⟨k, l, d, m2, hk, rfl, rfl, rfl, hv, hown⟩ := hrel
        by_cases hlt : k < n
        · obtain ⟨x, hx⟩ := get_some (xs := ds) (k := k) (by rw [HDL.out]; exact hlt)
          rcases hds with h | ⟨b, off, rfl, hA⟩
          · obtain rfl : ds = [] := by simpa using h
            cases hx
          obtain ⟨c0, c1, c2, c3⟩ := DeedsAt.at (.inr ⟨b, off, rfl, hA⟩) hx
          have hin := inB_cell c0
          have es : run3 (s0 xs ds) (ds.take (k + 1)) = (run3 (s0 xs ds) (ds.take k)).next x := by rw [take_snoc hx, run3_snoc]
          have hml : (run3 (s0 xs ds) (ds.take k)).m.length = 64 := by rw [run3_mlen]; exact HL.out
          have hvl2 := s0_vlen xs ds k
          have hk2 : k + 1 ≤ ds.length := by rw [HDL.out]; exact hlt
          have HK2 := Lib.hid hk2
          have HV := Lib.hid hv
          have HO2 := Lib.hid hown
          clear hx hA hk hk2 hv hown
          generalize run3 (s0 xs ds) (ds.take k) = s at *
          generalize hes : run3 (s0 xs ds) (ds.take (k + 1)) = s' at *
          have HES := Lib.hid hes
          clear hes
          obtain ⟨sb, sm, sv⟩ := s
          obtain ⟨yn, yk, ya, yv⟩ := x
          simp only at c0 c1 c2 c3 hml hvl2 HO2 HV
          by_cases hsb : sb = 0
          · subst hsb
            by_cases hbx : rightE yn yk ya yv = 0
            · rw [next_ok rfl (show badOf ⟨yn, yk, ya, yv⟩ = 0 from hbx)] at es
              subst es
              obtain ⟨sa, sc, hsv⟩ := own_form HO2.out
              subst hsv
              have t1 : (memA sm).size = 64 := by rw [size_memA, hml]
              have t2 : (memA (plainM sm yk ya yv)).size = 64 := by rw [size_memA, plainM_len, hml]
              have PL := fun w => plain_ok sm hml yn yk ya yv w (right_pos hbx).2.1 (right_pos hbx).2.2.1.1 (right_pos hbx).2.2.1.2
              have HV2 : Hid ((sv ++ [plainV sm yk ya]).length = m2 + 1) := Lib.hid (by rw [List.length_append, HV.out]; rfl)
              have hm2 : m2 ≤ 200 := by rw [← HV.out]; exact hvl2
              simp only at HES PL
              generalize hz2 : plainM sm yk ya yv = sz at *
              generalize hz3 : plainV sm yk ya = z at *
              have HPL := Lib.hid PL
              clear PL hz2 hz3 hml hvl2
              go_wp2_with (first
              | (at_builtin; refine wpList_append_own _ rfl _ _ 63 rfl (wc.heap.size + 1) 22 i0 (.int .u64 0) 1 8 Try.underlying63 hi hz0 hz1 hz2 rfl (by decide) _ _ _ rfl ((own_later (own_later ((own_swap (W1 := wc.alloc (.cells (memA sz) 26)) (d' := d) HO2.out (by simp) (by simp)).alloc _))).alloc _) _ 1 1 [.int .u64 z] rfl rfl ?c1 ?c2 ?c3 ?c4 ?c5 ?_)
              | (refine wpList_load_r rfl 26 _ rfl _ rfl 64 _ Try.underlying26 rfl (by kernel_rfl) (by (simp [go_sem, t1, t2]; done)) ?_; intro C hC; simp [go_sem] at hC; subst hC)
              | (refine wpList_store_r rfl 26 _ _ rfl _ rfl _ rfl 64 (by kernel_rfl) (by (simp [go_sem, t1, t2]; done)) (by (simp [t1, t2]; done)) (memA_one _) ?_; intro W hW; simp [go_sem] at hW; subst hW)
              | (go_at_call 28; refine (deedFault_any _ _ _ _ _).mono ?_; rintro e w1 ⟨rfl, hb1⟩; obtain ⟨l6, d6, rfl⟩ := later_of hb1; clear hb1)
              | (go_at_call 30; refine (HPL.out _).mono ?_; rintro e w1 ⟨rfl, hb1⟩; obtain ⟨l7, d7, rfl⟩ := later_of hb1; clear hb1))
              case c1 => exact one_new (by simp)
              case c2 => intro u hu; simp at hu; subst hu; rfl
              case c3 => unfold maxLen; omega
              case c4 => omega
              case c5 => simp; omega
              intro v' w1 hown' hgrow _
              have hb : Below (wc.alloc (.cells (memA sz) 26)).heap.size (wc.alloc (.cells (memA sz) 26)) w1 :=
                below_grown (by repeat (first | exact Below.refl _ _ | apply bs_later | apply bs_alloc | apply bs_drew | apply bs_drewN)) hgrow (fun g hg => by have := (HO2.out.lt g hg).1; simp; omega)
              obtain ⟨l3, d3, rfl⟩ := later_of hb
              have HO' := Lib.hid hown'
              clear hb hgrow hown'
              go_wp2
              go_roundw
              case rel => exact ⟨k + 1, _, _, m2 + 1, HK2.out, by go_num, by rw [HES.out], by rw [HES.out], by rw [HES.out]; exact HV2.out, by rw [HES.out, List.map_append]; exact HO'.out⟩
              case measure => simp [intOf]; omega
            · rw [next_new rfl (show ¬ badOf ⟨yn, yk, ya, yv⟩ = 0 from hbx)] at es
              subst es
              have hbx' : (rightE yn yk ya yv == 0) = false := by simpa using hbx
              clear hbx
              go_wp2_with (first
                | (go_at_call 28; refine (deedFault_any _ _ _ _ _).mono ?_; rintro e w1 ⟨rfl, hb1⟩; obtain ⟨l6, d6, rfl⟩ := later_of hb1; clear hb1))
              rw [later_alloc, later_later]
              go_roundw
              case rel => exact ⟨k + 1, _, _, m2, HK2.out, by go_num, by rw [HES.out]; rfl, by rw [HES.out], by rw [HES.out]; exact HV.out, by rw [HES.out]; exact own_more (by rw [← later_alloc]; exact HO2.out.alloc _) _ _⟩
              case measure => simp [intOf]; omega
          · rw [next_bad hsb] at es
            subst es
            have hsb' : (sb == 0) = false := by simpa using hsb
            clear hsb
            go_wp2
            rw [later_alloc]
            go_roundw
            case rel => exact ⟨k + 1, _, _, m2, HK2.out, by go_num, by rw [HES.out], by rw [HES.out], by rw [HES.out]; exact HV.out, by rw [HES.out, ← later_alloc]; exact HO2.out.alloc _⟩
            case measure => simp [intOf]; omega
        · obtain rfl : k = n := by have := HDL.out; omega
          have hT : ds.take k = ds := List.take_of_length_le (by rw [HDL.out]; omega)
          rw [hT] at hown hv ⊢
          have q10 := Q10.out
          have q13 := Q13.out
          have hbd := s0_bad xs ds
          have t1 : (memA (run3 (s0 xs ds) ds).m).size = 64 := by rw [size_memA, run3_mlen]; exact HL.out
          by_cases hpe : playE ds = 0
          · obtain ⟨em, ev⟩ := s0_ok xs ds hpe
            rw [em, HOM.out] at t1 hown
            rw [em, HOM.out]
            rw [ev, HOV.out] at hown hv
            rw [hbd, hpe]
            subst hv
            have hpo := HPO.out
            have HBD := Lib.hid hbd
            have HEM := Lib.hid em
            have HEV := Lib.hid ev
            obtain ⟨sa, sc, hsv⟩ := own_form hown
            subst hsv
            have HIB := Lib.hid (own_ints hown).2
            have HIA := Lib.hid hia
            clear hbd em ev hown hT hia
            go_wp2_with (first
              | (go_at_call 31; refine (eqU64.equal_same _ _ _ _ _ ov ov rfl (by unfold maxLen; omega) (HIA.out.below (by repeat (first | exact Below.refl _ _ | apply bs_later | apply bs_alloc | apply bs_drew | apply bs_drewN))) (HIB.out.below (by repeat (first | exact Below.refl _ _ | apply bs_later | apply bs_alloc | apply bs_drew | apply bs_drewN)))).mono ?_; rintro e w1 ⟨rfl, nd, rfl⟩; rw [decide_eq_true rfl])
              | (refine wpList_load_r rfl 26 _ rfl _ rfl 64 _ Try.underlying26 rfl (by kernel_rfl) (by (simp [go_sem, r10, r13, q10, q13, s2, s4, t1]; done)) ?_; intro C hC; simp [go_sem, i10, i13, q10, q13] at hC; subst hC))
            go_ret
            exact ⟨rfl, by repeat (first | exact hbw | apply bs_later | apply bs_alloc | apply bs_drew | apply bs_drewN)⟩
          · have hov : ov = [] := by rw [← HOV.out]; unfold outV; rw [if_neg hpe]
            have hom : om = zeroXs := by rw [← HOM.out]; unfold outM; rw [if_neg hpe]
            subst hov hom
            rw [hbd]
            have hpe' : (playE ds != 0) = true := by simpa using hpe
            clear hbd hpe hown hv hia
            go_wp2_with (first
              | (refine wpList_load_r rfl 26 _ rfl _ rfl 64 _ Try.underlying26 rfl (by kernel_rfl) (by (simp [go_sem, r10, r13, q10, q13, s2, s4, t1]; done)) ?_; intro C hC; simp [go_sem, i10, i13, q10, q13] at hC; subst hC))
            go_ret
            exact ⟨rfl, by repeat (first | exact hbw | apply bs_later | apply bs_alloc | apply bs_drew | apply bs_drewN)⟩

theorem walk {H : Type} {enc : TypeId × Value → H} {dd : DataW H} {pp : List MemPlace} (xs : List Int) (xn xk xa xv : Int) (a : Option Addr) (n c : Nat) (w : World) (hl : xs.length = 64) (wx : ∀ x ∈ xs, (Lit.int .u64 x).wf = true)
    (wn : (Lit.int .i64 xn).wf = true) (wk : (Lit.int .i64 xk).wf = true) (wa : (Lit.int .i64 xa).wf = true) (wv : (Lit.int .u64 xv).wf = true)
    (k2 : DataW.Trod enc Try.prog w 0 (fun _ => true) true 60 (.slice a n c) dd pp) :
    Calls Try.prog 5 #[.agg (xs.map (Value.int .u64)).toArray, .agg #[.int .i64 xn, .int .i64 xk, .int .i64 xa, .int .u64 xv], .slice a n c] w (Ret (.bool true) w) := by
  obtain ⟨h1, h2, _, ds, hd, hds, hok⟩ := open_deeds (m := 4) Try.underlying60 (by kernel_rfl) (by kernel_rfl) k2
  exact walk_any xs hl wx xn xk xa xv wv ds hok a n c w (Nat.le_trans h1 h2) hd hds

-- the frame, by program
set_option maxRecDepth 100000 in
theorem lifted (os : Os) (started : os.Started) (H : Type) (enc : TypeId × Value → H) :
    ReturnsInHanded {} Try.checked os 5 .any (Rows.atomicTellsSpec.pre6 enc Try.prog Try.f5 Rows.atomicTellsRow.domain false) (Rows.atomicTellsSpec.post enc Try.prog Try.f5 false true false false) := by
  refine returnsInHanded_of_change (C := Try.checked) own started (by kernel_rfl) Try.func5
    (ChangeSpec.witness6 (enc := enc) (C := Try.checked) false ⟨#[], #[.agg (Array.replicate 64 (.int .u64 0)), .agg #[.int .i64 0, .int .i64 0, .int .i64 0, .int .u64 0], .slice none 0 0], []⟩ 8 (by kernel_rfl) (by kernel_rfl) (by kernel_rfl) (by kernel_rfl)) ?_
  intro W base args ds gs before hval0 hW hcnd _
  have hval : ∀ (j : Nat) t v, Try.f5.params[j]? = some t → args[j]? = some v → Value.okWide Try.prog W .any base t v := hval0
  have hW' := hW
  obtain ⟨p, q, hA0, hV, rfl, hfz, hnd⟩ := hW
  have hA : DataW.TrodAll enc Try.prog W 0 (fun _ => true) true Try.f5.params.toList args.toList ds p := hA0
  rw [Try.params5] at hA hval
  obtain ⟨v0, vs0, d0, ds0, p0, q0, hargs, rfl, rfl, h0, r0⟩ := trodAll_cons hA
  obtain ⟨v1, vs1, d1, ds1, p1, q1, rfl, rfl, rfl, h1, r1⟩ := trodAll_cons r0
  obtain ⟨v2, vs2, d2, ds2, p2, q2, rfl, rfl, rfl, h2, r2⟩ := trodAll_cons r1
  obtain ⟨rfl, rfl, rfl⟩ := trodAll_nil r2
  obtain rfl : args = #[v0, v1, v2] := by cases args; simp_all
  obtain ⟨rfl, rfl⟩ := trodVars_none hV
  have k0 := h0
  have lt0 : ∀ x ∈ p0, x.block < W.heap.size := by obtain ⟨m, hm⟩ := k0; exact DataW.trod_lt m _ _ _ hm
  have k1 := h1
  have lt1 : ∀ x ∈ p1, x.block < W.heap.size := by obtain ⟨m, hm⟩ := k1; exact DataW.trod_lt m _ _ _ hm
  have k2 := h2
  have lt2 : ∀ x ∈ p2, x.block < W.heap.size := by obtain ⟨m, hm⟩ := k2; exact DataW.trod_lt m _ _ _ hm
  obtain ⟨cs0, rfl, al0⟩ := open_flat (n := 4) (List.replicate 64 (.int .u64)) (by kernel_rfl) (by kernel_rfl) (.inr ⟨_, _, Try.underlying26⟩) (hval 0 26 v0 rfl rfl) h0
  obtain ⟨a0, l0, rfl, w0⟩ := all2_ints al0
  obtain ⟨cs1, rfl, al1⟩ := open_flat (n := 4) [.int .i64, .int .i64, .int .i64, .int .u64] (by kernel_rfl) (by kernel_rfl) (.inl ⟨_, Try.underlying56⟩) (hval 1 56 v1 rfl rfl) h1
  obtain ⟨a1x, a1y, a1z, a1u, rfl, w1x, w1y, w1z, w1u⟩ := all2_deed al1
  obtain ⟨a2, len2, cap2, rfl⟩ := okWide_slice Try.underlying60 (hval 2 60 v2 rfl rfl)
  clear hA0 hval0
  refine (walk a0 a1x a1y a1z a1u a2 len2 cap2 W l0 w0 w1x w1y w1z w1u k2).mono fun e W' ⟨he, bel⟩ => ?_
  subst he
  exact ⟨_, rfl, _, _, _, [], _, [], hW', trodAll_mk1 (shut_bool Try.underlying4 _), (trodAll_cons_mk (Below.trod laidOut (by kernel_rfl) (of_decide_eq_true (by kernel_rfl)) k0 bel lt0) (trodAll_cons_mk (Below.trod laidOut (by kernel_rfl) (of_decide_eq_true (by kernel_rfl)) k1 bel lt1) (trodAll_cons_mk (Below.trod laidOut (by kernel_rfl) (of_decide_eq_true (by kernel_rfl)) k2 bel lt2) trodAll_mk0))), rfl, bel.frame _, fun h => by cases h⟩

theorem over : Rows.atomicTellsRow.holds Try.pinned (OpenSpec.ofChange Rows.atomicTellsSpec) :=
  OpenClaim.holds_of_wide 5 Try.f5 rfl rfl rfl rfl rfl rfl rfl ⟨rfl, rfl, rfl, rfl, rfl⟩ rfl rfl rfl rfl rfl (by kernel_rfl) Try.func5 (by kernel_rfl)
    (of_decide_eq_true (by kernel_rfl)) (by unfold Func.isWrapper; first | (rw [if_pos (by decide +kernel)]; kernel_rfl) | (rw [if_neg (by decide +kernel)]; exact ⟨rfl, rfl⟩))
    (fun os started H enc _ => lifted os started H enc)

theorem proved : Rows.AtomicTellsSaid := over

end Go.Proofs.Ytffhfpdmfegcpab.atomicTells
