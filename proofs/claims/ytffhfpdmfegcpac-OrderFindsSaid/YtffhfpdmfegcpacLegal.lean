/- The contract of order.Legal. -/
import Derived.Test.YtffhfpdmfegcpacTold
import Derived.Test.YtffhfpdmfegcpacMemEq
namespace Go.Proofs.Ytffhfpdmfegcpac.told
open Go.ChangeShapes Go.WideShapes Go.ChangeAt Go.RowKit
open Go.Proofs.Ytffhfpdmfegcpac.base Go.Proofs.Ytffhfpdmfegcpac.flat Go.Proofs.Ytffhfpdmfegcpac.same Go.Proofs.Ytffhfpdmfegcpac.addr Go.Proofs.Ytffhfpdmfegcpac.bank Go.Proofs.Ytffhfpdmfegcpac.atomic Go.Proofs.Ytffhfpdmfegcpac.table Go.Proofs.Ytffhfpdmfegcpac.play Go.Proofs.Ytffhfpdmfegcpac.refDeed Go.Proofs.Ytffhfpdmfegcpac.range
set_option linter.unusedVariables false
set_option linter.unusedSimpArgs false

/-- what was told is what memory tells -/
def legalB (xs : List Int) : List T5 → Bool
  | [] => true
  | x :: l => decide (plainV xs x.d.k x.d.a = x.u) && legalB (plainM xs x.d.k x.d.a x.d.v) l
def memT (xs : List Int) (ts : List T5) : List Int := playM xs (ts.map (·.d))
theorem memT_len (xs : List Int) (ts : List T5) : (memT xs ts).length = xs.length := playM_len _ _
theorem memT_snoc (xs : List Int) (l : List T5) (x : T5) : memT xs (l ++ [x]) = plainM (memT xs l) x.d.k x.d.a x.d.v := by
  unfold memT; rw [List.map_append]; exact playM_snoc _ _ _
theorem legalB_append (xs : List Int) (l l' : List T5) : legalB xs (l ++ l') = (legalB xs l && legalB (memT xs l) l') := by
  induction l generalizing xs with
  | nil => simp [legalB, memT, playM]
  | cons x l ih =>
    show (decide _ && legalB _ (l ++ l')) = ((decide _ && legalB _ l) && _)
    rw [ih, Bool.and_assoc]
    rfl
theorem legalB_snoc (xs : List Int) (l : List T5) (x : T5) : legalB xs (l ++ [x]) = (legalB xs l && decide (plainV (memT xs l) x.d.k x.d.a = x.u)) := by
  rw [legalB_append]; simp [legalB]
theorem legalB_at {xs : List Int} {ts : List T5} {k : Nat} {x : T5} (h : ts[k]? = some x) (hx : ¬ plainV (memT xs (ts.take k)) x.d.k x.d.a = x.u) : legalB xs ts = false := by
  have e : ts = ts.take k ++ x :: ts.drop (k + 1) := by
    obtain ⟨hk, hx⟩ := List.getElem?_eq_some_iff.1 h
    rw [← hx, ← List.drop_eq_getElem_cons hk, List.take_append_drop]
  rw [e, legalB_append]
  simp [legalB, hx]
def legalR (xs : List Int) (ts : List T5) : Bool := if toldE 200 ts = 0 then legalB xs ts else false

def RelL (xs : List Int) (ts : List T5) (w0 : World) (i : Value) (wr : World) : Prop :=
  ∃ (k : Nat) (l : Array Obj) (d : Nat), k ≤ ts.length ∧ i = .int .i64 k ∧ wr = (w0.alloc (.cells (memA (memT xs (ts.take k))) 26)).later l d ∧ legalB xs (ts.take k) = true

set_option maxHeartbeats 4000000 in
set_option maxRecDepth 100000 in
theorem legal_any (xs : List Int) (hl : xs.length = 64) (ts : List T5) (a : Option Addr) (n c : Nat) (w : World) (hm : n ≤ maxLen) (hd : ts.length = n) (h : ToldsAt w a ts) :
    Calls Try.prog 10 #[.agg (memA xs), .slice a n c] w (Ret (.tuple #[.bool (legalR xs ts), .int .i64 (toldE 200 ts)]) w) := by
  have PC := fun w (h : ToldsAt w a ts) => check_any ts 200 (by decide) a n c w hm hd h
  have s1 : (memA xs).size = 64 := by rw [size_memA, hl]
  have HC := Lib.hid PC
  clear PC
  by_cases h0 : toldE 200 ts = 0
  · have hn : n ≤ 200 := by
      unfold toldE at h0
      split at h0
      · omega
      · omega
    have hE : legalR xs ts = legalB xs ts := if_pos h0
    have hf : ∀ x ∈ ts.map (·.d), badOf x = 0 := firstBad_mem (by unfold toldE at h0; rw [if_neg (by omega)] at h0; exact h0)
    rw [hE, h0]
    rw [h0] at HC
    have HF := Lib.hid hf
    have HDL := Lib.hid hd
    have HX := Lib.hid hl
    have HT := Lib.hid h
    clear hE h0 hf hl h
    go_enter Try.func10, Try.ntmps10
    go_wp2_with (first
      | (go_at_call 37; refine (HC.out _ (ToldsAt.below HT.out (by repeat (first | exact Below.refl _ _ | apply bs_later | apply bs_alloc | apply bs_drew | apply bs_drewN)))).mono ?_; rintro e w1 ⟨rfl, hb1⟩; obtain ⟨l1, d1, rfl⟩ := later_of hb1; clear hb1))
    go_loopw [17] (RelL xs ts w) (fun i _ => n - (intOf i).toNat)
    case atStart => exact ⟨0, l1, d1, by omega, rfl, rfl, rfl⟩
    case round =>
      clear l1 d1
      obtain ⟨k, l, d, hk, rfl, rfl, hleg⟩ := hrel
      by_cases hlt : k < n
      · obtain ⟨x, hx⟩ := get_some (xs := ts) (k := k) (by rw [HDL.out]; exact hlt)
        have ht := HT.out
        obtain ⟨b, off, rfl⟩ := ToldsAt.form ht hx
        obtain ⟨c0, c1, c2, c3, c4⟩ := ToldsAt.at ht hx
        have hin : inB w b := range.lt_of_cell c0
        have hbad : badOf x.d = 0 := HF.out x.d (List.mem_map.2 ⟨x, List.mem_of_getElem? hx, rfl⟩)
        have hml : (memT xs (ts.take k)).length = 64 := by rw [memT_len, HX.out]
        have eM : memT xs (ts.take (k + 1)) = plainM (memT xs (ts.take k)) x.d.k x.d.a x.d.v := by rw [take_snoc hx, memT_snoc]
        have eL : legalB xs (ts.take (k + 1)) = (legalB xs (ts.take k) && decide (plainV (memT xs (ts.take k)) x.d.k x.d.a = x.u)) := by rw [take_snoc hx, legalB_snoc]
        have hat := legalB_at (xs := xs) hx
        have s2 : (memA (memT xs (ts.take k))).size = 64 := by rw [size_memA, hml]
        have s3 : (memA (plainM (memT xs (ts.take k)) x.d.k x.d.a x.d.v)).size = 64 := by rw [size_memA, plainM_len, hml]
        have P := fun w => Do_ok (memT xs (ts.take k)) hml x.d.n x.d.k x.d.a x.d.v w hbad
        have HKL : Hid (k + 1 ≤ ts.length) := Lib.hid (by rw [HDL.out]; exact hlt)
        obtain ⟨⟨xn, xk, xa, xv⟩, xu⟩ := x
        simp only at c0 c1 c2 c3 c4 eM eL P s3 hat
        generalize plainM (memT xs (ts.take k)) xk xa xv = zs at *
        generalize plainV (memT xs (ts.take k)) xk xa = z at *
        generalize memT xs (ts.take k) = ys at *
        have HP := Lib.hid P
        have HM := Lib.hid eM
        have HL := Lib.hid eL
        have HLEG := Lib.hid hleg
        have HAT := Lib.hid hat
        clear P eM eL hleg hat ht hx hbad hml hk
        by_cases hz : z = xu
        · have hz' : (z != xu) = false := by simpa using hz
          have HZ := Lib.hid hz
          clear hz
          go_wp2_with (first
            | (refine wpList_load_r rfl 26 _ rfl _ rfl 64 _ Try.underlying26 rfl (by kernel_rfl) (by (simp [go_sem, s2, s3]; done)) ?_; intro C hC; simp [go_sem] at hC; subst hC)
            | (refine wpList_store_r rfl 26 _ _ rfl _ rfl _ rfl 64 (by kernel_rfl) (by (simp [go_sem, s2, s3]; done)) (by (simp [s2, s3]; done)) (memA_one _) ?_; intro W hW; simp [go_sem] at hW; subst hW)
            | (go_at_call 40; refine (HP.out _).mono ?_; rintro e w1 ⟨rfl, hb1⟩; obtain ⟨l1, d1, rfl⟩ := later_of hb1; clear hb1))
          rw [later_alloc, later_later]
          go_roundw
          case rel => exact ⟨k + 1, _, _, HKL.out, by go_num, by rw [HM.out], by rw [HL.out, HLEG.out, decide_eq_true HZ.out]; rfl⟩
          case measure => simp [intOf]; omega
        · have hz' : (z != xu) = true := by simpa using hz
          rw [HAT.out hz]
          clear hz
          go_wp2_with (first
            | (refine wpList_load_r rfl 26 _ rfl _ rfl 64 _ Try.underlying26 rfl (by kernel_rfl) (by (simp [go_sem, s2, s3]; done)) ?_; intro C hC; simp [go_sem] at hC; subst hC)
            | (refine wpList_store_r rfl 26 _ _ rfl _ rfl _ rfl 64 (by kernel_rfl) (by (simp [go_sem, s2, s3]; done)) (by (simp [s2, s3]; done)) (memA_one _) ?_; intro W hW; simp [go_sem] at hW; subst hW)
            | (go_at_call 40; refine (HP.out _).mono ?_; rintro e w1 ⟨rfl, hb1⟩; obtain ⟨l1, d1, rfl⟩ := later_of hb1; clear hb1))
          go_ret2
          exact ⟨rfl, (by repeat (first | exact Below.refl _ _ | apply bs_later | apply bs_alloc | apply bs_drew | apply bs_drewN))⟩
      · obtain rfl : k = n := by have := HDL.out; omega
        have hT : ts.take k = ts := List.take_of_length_le (by rw [HDL.out]; omega)
        rw [hT] at hleg ⊢
        have HE := Lib.hid hleg
        clear hleg hT
        go_wp2
        go_ret2
        exact ⟨congrArg (fun z => Ending.returned (Value.tuple #[.bool z, .int .i64 0])) HE.out.symm, (by repeat (first | exact Below.refl _ _ | apply bs_later | apply bs_alloc | apply bs_drew | apply bs_drewN))⟩
  · have h0' : (toldE 200 ts != 0) = true := by simpa using h0
    have hE : legalR xs ts = false := if_neg h0
    rw [hE]
    generalize toldE 200 ts = te at *
    have HT := Lib.hid h
    clear hE h0 h hl hd
    go_enter Try.func10, Try.ntmps10
    go_wp2_with (first
      | (go_at_call 37; refine (HC.out _ (ToldsAt.below HT.out (by repeat (first | exact Below.refl _ _ | apply bs_later | apply bs_alloc | apply bs_drew | apply bs_drewN)))).mono ?_; rintro e w1 ⟨rfl, hb1⟩; obtain ⟨l1, d1, rfl⟩ := later_of hb1; clear hb1))
    go_ret2
    exact ⟨rfl, (by repeat (first | exact Below.refl _ _ | apply bs_later | apply bs_alloc | apply bs_drew | apply bs_drewN))⟩
end Go.Proofs.Ytffhfpdmfegcpac.told
