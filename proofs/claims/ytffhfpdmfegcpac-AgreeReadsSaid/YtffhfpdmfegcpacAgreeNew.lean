/- The contract of agree.New at the small configuration, and of agrees. -/
import Derived.Test.YtffhfpdmfegcpacAgreeHolders
import Derived.Test.YtffhfpdmfegcpacCacheNew
import Derived.Test.YtffhfpdmfegcpacBuild
namespace Go.Proofs.Ytffhfpdmfegcpac.agree
open Go.ChangeShapes Go.WideShapes Go.ChangeAt Go.RowKit
open Go.Joins (ownsRow_le)
open Go.Proofs.Ytffhfpdmfegcpac.base Go.Proofs.Ytffhfpdmfegcpac.flat Go.Proofs.Ytffhfpdmfegcpac.table Go.Proofs.Ytffhfpdmfegcpac.prog Go.Proofs.Ytffhfpdmfegcpac.same Go.Proofs.Ytffhfpdmfegcpac.addr Go.Proofs.Ytffhfpdmfegcpac.bank Go.Proofs.Ytffhfpdmfegcpac.ways Go.Proofs.Ytffhfpdmfegcpac.state Go.Proofs.Ytffhfpdmfegcpac.turn Go.Proofs.Ytffhfpdmfegcpac.bankMore Go.Proofs.Ytffhfpdmfegcpac.memEq Go.Proofs.Ytffhfpdmfegcpac.atomic
set_option linter.unusedVariables false
set_option linter.unusedSimpArgs false

theorem info_cacheA : (Try.prog.info? 63).map (fun i => (i.zero, i.size, i.bytes)) = some (some (.slice none 0 0), 1, 24) := by kernel_rfl
theorem world_splice {m : List Int} (hm : m.length = 64) : splice (worldA none 0 0 zeroXs) 1 (memA m) = worldA none 0 0 m := by
  unfold splice
  rw [size_memA, hm, worldA_size zeroXs_len]
  have h1 : (worldA none 0 0 zeroXs).extract 0 1 = #[.slice none 0 0] := by rfl
  have h2 : (worldA none 0 0 zeroXs).extract (1 + 64) 65 = #[] := by rfl
  rw [h1, h2]
  apply Array.toList_inj.1
  simp [worldA, memA]
theorem fold_world {m : List Int} (hm : m.length = 64) : Array.foldl (fun (cs : Array Value) (x : Value × Nat) => cs.setIfInBounds (1 + x.snd) x.fst) Try.zeroCells57 (memA m).zipIdx 0 64 = worldA none 0 0 m := by
  have hz : Try.zeroCells57 = worldA none 0 0 zeroXs := by kernel_rfl
  have h := fold_splice 1 (memA m) (worldA none 0 0 zeroXs) (by rw [size_memA, hm, worldA_size zeroXs_len]; omega)
  rw [world_splice hm] at h
  rw [hz, ← h]
  congr 1
  simp [size_memA, hm]
theorem worldA_put (a a' : Option Addr) (n c n' c' : Nat) (xs : List Int) : (worldA a n c xs).setIfInBounds 0 (.slice a' n' c') = worldA a' n' c' xs := by
  apply Array.toList_inj.1
  simp [worldA]
def RelA (z : List Int) (g : Nat) (w : World) (i : Value) (wr : World) : Prop :=
  ∃ (k : Nat) (R : Array Value) (o1 : Array Obj) (d1 : Nat) (o : Array Obj) (d : Nat) (a : Option Addr) (c : Nat) (ys : List Value), k ≤ 2 ∧ i = .int .i64 k ∧ wr = ((((w.alloc (.cells #[.int .i64 2, .int .i64 1, .int .i64 1, .int .i64 1] 54)).alloc (.cells R 57)).later o1 d1).alloc (.cells (worldA a k c z) 57)).later o d ∧ R.size = 65 ∧ g = w.heap.size + 1 + 1 + o1.size
    ∧ (((((w.alloc (.cells #[.int .i64 2, .int .i64 1, .int .i64 1, .int .i64 1] 54)).alloc (.cells R 57)).later o1 d1).alloc (.cells (worldA a k c z) 57)).later o d).ownsRow (g + 1) 63 1 (.slice a k c) k ys

set_option maxHeartbeats 4000000 in
set_option maxRecDepth 100000 in
theorem newW_small (w : World) : Calls Try.prog 50 #[.agg #[.int .i64 2, .int .i64 1, .int .i64 1, .int .i64 1]] w fun e w' => ∃ a c, e = .returned (.tuple #[.agg (worldA a 2 c zeroXs), .int .i64 0]) ∧ Below w.heap.size w w' := by
  have PC := fun w => addr.check_any 2 1 1 1 w
  rw [show cfgE 2 1 1 1 = 0 by decide] at PC
  have HC := Lib.hid PC
  have HPN : Hid (∀ w, Calls Try.prog 59 #[] w (Ret (.agg (memA zeroXs)) w)) := Lib.hid new_any
  have HZ := Lib.hid zeroXs_len
  obtain ⟨i4, ji, jz0, jz1, jz2⟩ := info_parts info_cacheA
  clear PC
  generalize zeroXs = z at *
  have HW : Hid (∀ a n c, (worldA a n c z).size = 65) := Lib.hid fun a n c => worldA_size HZ.out
  have hms : (memA z).size = 64 := by rw [size_memA, HZ.out]
  -- A begin
  go_enter Try.func50, Try.ntmps50
  go_wp2_with (first
    | (go_at_call 62; refine (HC.out _).mono ?_; rintro e w1 ⟨rfl, hb1⟩; obtain ⟨l1, d1, rfl⟩ := later_of hb1; clear hb1)
    | (go_at_call 59; refine (HPN.out _).mono ?_; rintro e w1 ⟨rfl, hb1⟩; obtain ⟨l2, d2, rfl⟩ := later_of hb1; clear hb1; rw [later_later]; generalize l1 ++ l2 = o1)
    | ((with_reducible refine at_wp ?_); rw [fold_world HZ.out]; refine wpList_store_r rfl 57 _ _ rfl _ rfl _ rfl 65 (by kernel_rfl) (by (simp [go_sem, HW.out]; done)) (by (simp [HW.out]; done)) (worldA_one _ _ _ _) ?_; intro W' hW'; simp [go_sem] at hW'; subst hW'))
  obtain ⟨g, hg⟩ : ∃ g, g = w.heap.size + 1 + 1 + o1.size := ⟨_, rfl⟩
  have HG := Lib.hid hg
  rw [← hg]
  clear hg
  go_loopw [18] (RelA z g w) (fun i _ => 2 - (intOf i).toNat)
  case atStart => exact ⟨0, _, o1, d2, #[], _, none, 0, [], Nat.zero_le _, rfl, later_zero _, by rfl, HG.out, World.ownsRow_nil _ _ _ _⟩
  case round =>
    clear HG o1 d2
    obtain ⟨k, R, o1, d1, o, d, a, c, ys, hk, rfl, rfl, hR, rfl, hown⟩ := hrel
    have h0 : (worldA a k c z)[0]? = some (.slice a k c) := worldA_head a k c z
    have HSZ : Hid ((worldA a k c z).size = 65) := Lib.hid (HW.out _ _ _)
    have HONE : Hid ((worldA a k c z).all (·.oneCell') = true) := Lib.hid (worldA_one a k c z)
    have HPUT : Hid (∀ a' n' c', (worldA a k c z).setIfInBounds 0 (.slice a' n' c') = worldA a' n' c' z) := Lib.hid fun a' n' c' => worldA_put a a' k c n' c' z
    have HEND : Hid (k = 2 → worldA a k c z = worldA a 2 c z) := Lib.hid fun e => by rw [e]
    generalize worldA a k c z = A at *
    have HO := Lib.hid hown
    by_cases hk2 : k < 2
    · have hkI : (k : Int) < 2 := by omega
      have HJ : Hid (k + 1 ≤ 2) := Lib.hid hk2
      clear hown hk HEND
      -- B begin
      go_wp2_with (first
        | (go_at_call 75; refine (cacheNew.new_small _).mono ?_; rintro e w1 ⟨pa, pc, rfl, hb1⟩; obtain ⟨l2, d2, rfl⟩ := later_of hb1; clear hb1; rw [later_later]; have HO5 := Lib.hid (own_more HO.out l2 d2))
        | (at_builtin; refine wpList_append_own _ rfl _ _ 55 rfl (w.heap.size + 1 + 1 + o1.size + 1) 63 i4 _ 1 24 Try.underlying55 ji jz0 jz1 jz2 rfl (by decide) _ _ _ rfl (HO5.out.alloc _) ⟨_, 0, none⟩ 1 1 [.slice pa 1 pc] rfl rfl (one_newA (by simp)) (fun u hu => by simp at hu; subst hu; rfl) (by unfold maxLen; omega) (by omega) (by first | (simp; done) | (simp; omega)) ?_; intro v' w1 hown' hgrow _; have hb := below_grown (W0 := (((w.alloc (.cells #[.int .i64 2, .int .i64 1, .int .i64 1, .int .i64 1] 54)).alloc (.cells R 57)).later o1 d1).alloc (.cells A 57)) (by repeat (first | exact Below.refl _ _ | apply bs_later | apply bs_alloc | apply bs_drew | apply bs_drewN)) hgrow (fun g' hg' => by have := (HO5.out.lt g' hg').1; simp; omega); obtain ⟨l3, d3, rfl⟩ := later_of hb; obtain ⟨va', vc', hv'⟩ := own_form hown'; subst hv'; have HO' := Lib.hid hown'; clear hown' hgrow hb))
      go_roundw
      case rel => exact ⟨k + 1, R, o1, d1, l3, _, va', vc', _, HJ.out, by go_num, by rw [HPUT.out], hR, rfl, own_swap HO'.out (by simp) (by simp)⟩
      case measure => simp [intOf]; omega
      -- B end
    · have hkI : ¬ (k : Int) < 2 := by omega
      have HE := Lib.hid (HEND.out (by omega))
      clear hown hk HEND
      -- C begin
      go_wp2_with (first
        | ((with_reducible refine at_wp ?_); refine wpList_load_r rfl 57 _ rfl _ rfl 65 _ Try.underlying57 rfl (by kernel_rfl) (by (simp [go_sem, HSZ.out]; done)) ?_; intro C hC; simp [go_sem] at hC; subst hC)
        | ((with_reducible refine at_wp ?_); refine wpList_store_r rfl 57 _ _ rfl _ rfl _ rfl 65 (by kernel_rfl) (by (simp [go_sem, hR, HSZ.out]; done)) (by (simp [HSZ.out]; done)) HONE.out ?_; intro W' hW'; simp [go_sem] at hW'; subst hW'))
      refine bodyPost_ret (results_row_tmp rfl _ _ _ 65 _ rfl Try.underlying57 rfl (by kernel_rfl) ?hrow A ?hcon _ rfl) rfl ?hend
      case hrow => simp [go_sem, hR, HSZ.out]; done
      case hcon => simp [go_sem]
      case hend =>
        rw [HE.out]
        exact ⟨⟨a, c, rfl⟩, (by repeat (first | exact Below.refl _ _ | apply bs_later | apply bs_alloc | apply bs_drew | apply bs_drewN))⟩
      -- C end
  -- A end

set_option maxHeartbeats 2000000 in
set_option maxRecDepth 100000 in
theorem agrees_any (w : World) : Calls Try.prog 17 #[] w (Ret (.bool true) w) := by
  have HZ := Lib.hid zeroXs_len
  have HP := Lib.hid newW_small
  generalize zeroXs = z at *
  -- D begin
  go_enter Try.func17, Try.ntmps17
  go_wp2_with (first
    | (go_at_call 51; refine (cacheNew.smallN_any _).mono ?_; rintro e w1 ⟨rfl, hb1⟩; obtain ⟨l1, d1, rfl⟩ := later_of hb1; clear hb1)
    | (go_at_call 50; refine (HP.out _).mono ?_; rintro e w1 ⟨a, c, rfl, hb1⟩; obtain ⟨l2, d2, rfl⟩ := later_of hb1; clear hb1; have h0 := worldA_head a 2 c z; have HSZ := Lib.hid (worldA_size (a := a) (n := 2) (c := c) HZ.out); have HONE := Lib.hid (worldA_one a 2 c z); generalize worldA a 2 c z = A at *)
    | ((with_reducible refine at_wp ?_); refine wpList_store_r rfl 57 _ _ rfl _ rfl _ rfl 65 (by kernel_rfl) (by (simp [go_sem, HSZ.out]; done)) (by (simp [HSZ.out]; done)) HONE.out ?_; intro W' hW'; simp [go_sem] at hW'; subst hW'))
  go_ret
  exact ⟨rfl, (by repeat (first | exact Below.refl _ _ | apply bs_later | apply bs_alloc | apply bs_drew | apply bs_drewN))⟩
  -- D end
end Go.Proofs.Ytffhfpdmfegcpac.agree
