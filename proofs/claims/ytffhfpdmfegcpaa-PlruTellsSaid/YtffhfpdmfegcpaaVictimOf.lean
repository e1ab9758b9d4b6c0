/- The contract of ringdoveref.VictimOf. -/
import Derived.Test.YtffhfpdmfegcpaaTouched
namespace Go.Proofs.Ytffhfpdmfegcpaa.road
open Go.ChangeShapes Go.WideShapes Go.ChangeAt Go.RowKit
open Go.Proofs.Ytffhfpdmfegcpaa.base
set_option linter.unusedVariables false
set_option linter.unusedSimpArgs false

theorem ret_int {k : IntKind} {a b : Int} (h : a = b) : Ending.returned (.int k a) = .returned (.int k b) := by rw [h]
def okI (f : Int → Option Bool) (left : Lit → Bool) (i : Int) (b : Bool) : Bool := match f i with | some v => left (.int .i64 i) || (b == v) | none => true
def okB (f : Int → Option Bool) (left : Lit → Bool) (a b c : Bool) : Bool := okI f left 0 a && okI f left 1 b && okI f left 2 c
def matchI (f : Int → Option Bool) (i : Int) (b : Bool) : Bool := match f i with | some v => b == v | none => true
def matchB (f : Int → Option Bool) (a b c : Bool) : Bool := matchI f 0 a && matchI f 1 b && matchI f 2 c
theorem okI_start {f : Int → Option Bool} {D : DataW Unit} (h : Holds D f) (i : Int) (b : Bool) : okI f (Maps.has D) i b = true := by
  unfold okI
  cases hf : f i with
  | none => rfl
  | some v => simp only; rw [h.1, hf]; rfl
theorem okB_start {f : Int → Option Bool} {D : DataW Unit} (h : Holds D f) (a b c : Bool) : okB f (Maps.has D) a b c = true := by
  unfold okB; rw [okI_start h, okI_start h, okI_start h]; rfl
theorem okI_end {f : Int → Option Bool} {left : Lit → Bool} (h : ∀ kl, left kl = false) (i : Int) (b : Bool) : okI f left i b = matchI f i b := by
  unfold okI matchI
  cases hf : f i with
  | none => rfl
  | some v => simp only; rw [h]; rfl
theorem okB_end {f : Int → Option Bool} {left : Lit → Bool} (h : ∀ kl, left kl = false) (a b c : Bool) : okB f left a b c = matchB f a b c := by
  unfold okB matchB; rw [okI_end h, okI_end h, okI_end h]
theorem okI_same {f : Int → Option Bool} {left : Lit → Bool} {x : Int} {c : Bool} (hx : f x = some c) (b : Bool) : okI f (fun z => left z && !z.sameKey (.int .i64 x)) x b = (b == c) := by
  unfold okI
  rw [hx]
  simp [WideAt.sameKey_self (a := .int .i64 x) trivial]
theorem okI_was {f : Int → Option Bool} {left : Lit → Bool} {x : Int} (hl : left (.int .i64 x) = true) (b : Bool) : okI f left x b = true := by
  unfold okI
  cases hf : f x with
  | none => rfl
  | some v => simp [hl]
theorem okI_other {f : Int → Option Bool} {left : Lit → Bool} {x i : Int} (hx : i ≠ x) (b : Bool) : okI f (fun z => left z && !z.sameKey (.int .i64 x)) i b = okI f left i b := by
  unfold okI
  cases hf : f i with
  | none => rfl
  | some v => simp [Maps.sameKey_ne (a := .int .i64 i) (b := .int .i64 x) (fun h => hx (by injection h))]
theorem okB_0 {f : Int → Option Bool} {left : Lit → Bool} {y a b c : Bool} (hx : f 0 = some y) (hl : left (.int .i64 0) = true) : okB f (fun z => left z && !z.sameKey (.int .i64 0)) a b c = (okB f left a b c && (a == y)) := by
  unfold okB; rw [okI_same hx, okI_other (by decide), okI_other (by decide), okI_was hl]; cases (a == y) <;> simp
theorem okB_1 {f : Int → Option Bool} {left : Lit → Bool} {y a b c : Bool} (hx : f 1 = some y) (hl : left (.int .i64 1) = true) : okB f (fun z => left z && !z.sameKey (.int .i64 1)) a b c = (okB f left a b c && (b == y)) := by
  unfold okB; rw [okI_same hx, okI_other (by decide), okI_other (by decide), okI_was hl]; cases (b == y) <;> simp
theorem okB_2 {f : Int → Option Bool} {left : Lit → Bool} {y a b c : Bool} (hx : f 2 = some y) (hl : left (.int .i64 2) = true) : okB f (fun z => left z && !z.sameKey (.int .i64 2)) a b c = (okB f left a b c && (c == y)) := by
  unfold okB; rw [okI_same hx, okI_other (by decide), okI_other (by decide), okI_was hl]; simp

/-- the first way to which all bits lead, of m that are left -/
def scan (a b c : Bool) (n : Int) : Nat → Nat → Int
  | 0, _ => -1
  | m + 1, k => if matchB (roadF n k) a b c = true then (k : Int) else scan a b c n m (k + 1)
theorem scan_hit {a b c : Bool} {n : Int} {N k : Nat} (hk : k < N) (h : matchB (roadF n k) a b c = true) : scan a b c n (N - k) k = k := by
  rw [show N - k = (N - (k + 1)) + 1 by omega]; exact if_pos h
theorem scan_miss {a b c : Bool} {n : Int} {N k : Nat} (hk : k < N) (h : matchB (roadF n k) a b c = false) : scan a b c n (N - k) k = scan a b c n (N - (k + 1)) (k + 1) := by
  rw [show N - k = (N - (k + 1)) + 1 by omega]; exact if_neg (by rw [h]; decide)

def Inv2 (a b c : Bool) (f : Int → Option Bool) (D : DataW Unit) (Wb : World) (g r : Nat) (s7 : Value) (wr : World) : Prop :=
  ∃ (left : Lit → Bool) (cnt d : Nat) (l : Array Obj), s7 = .bool (okB f left a b c) ∧ wr = Wb.later l d ∧ wr.ranges Try.prog 3 RB g r 2 D left cnt
def Out (a b c : Bool) (N : Nat) (Wb : World) (i : Value) (wr : World) : Prop :=
  ∃ (k d : Nat) (l : Array Obj), k ≤ N ∧ i = .int .i64 k ∧ wr = Wb.later l d ∧ Hid (scan a b c N (N - k) k = scan a b c N N 0)

set_option maxHeartbeats 4000000 in
set_option maxRecDepth 100000 in
theorem victimOf_any (a b c : Bool) (N : Nat) (w : World) (h1 : 1 ≤ N) (h4 : N ≤ 4) :
    Calls Try.prog 36 #[.agg #[.bool a, .bool b, .bool c], .int .i64 N] w (Ret (.int .i64 (scan a b c N N 0)) w) := by
  go_enter Try.func36, Try.ntmps36
  go_wp2_with (first
    | (go_at_call 56; refine (bits_any _ _ _ _).mono ?_; rintro e w1 ⟨rfl, hb1⟩; obtain ⟨l1, d1, rfl⟩ := later_of hb1; clear hb1))
  go_loopw [13] (Out a b c N (((w.alloc (.cells #[.bool a, .bool b, .bool c] 54)).later l1 d1).alloc (.cells #[.bool a, .bool b, .bool c] 89))) (fun i _ => N - (intOf i).toNat)
  case atStart => exact ⟨0, _, #[], by omega, rfl, later_zero _, Lib.hid rfl⟩
  case round =>
    obtain ⟨k, d, l, hk, rfl, rfl, HS⟩ := hrel
    by_cases hlt : k < N
    · have RC := fun w => road_any N k w (by omega)
      have HR := Lib.hid RC
      have HH := Lib.hid (road_holds N k)
      have HKK := Lib.hid (roadF_key N k)
      clear RC
      generalize hD : roadD N k = D at *
      generalize hF : roadF N k = f at *
      have HF := Lib.hid hF
      clear hD hF
      go_wp2_with (first
        | (go_at_call 58; refine (HR.out _).mono ?_; rintro e w1 ⟨g, rfl, hown, hg, hb1⟩; obtain ⟨l2, d2, rfl⟩ := later_of hb1; have HO := Lib.hid hown; have HG := Lib.hid hg; clear hb1 hown hg)
        | (at_range; refine wpList_range_own _ rfl _ 92 rfl 3 4 law Try.underlying92 RB g 2 _ rfl HO.out ?_; intro w0 hrg0 hg0 hs0))
      go_frame
      have hb0 := below_grown (by repeat (first | exact Below.refl _ _ | apply bs_later | apply bs_alloc | apply bs_drew | apply bs_drewN)) hg0 (by simp) (W0 := (((w.alloc (.cells #[.bool a, .bool b, .bool c] 54)).later l1 d1).alloc (.cells #[.bool a, .bool b, .bool c] 89)))
      obtain ⟨l3, d3, rfl⟩ := later_of hb0
      have hsz : (((((w.alloc (.cells #[.bool a, .bool b, .bool c] 54)).later l1 d1).alloc (.cells #[.bool a, .bool b, .bool c] 89)).later l d).later l2 d2).heap.size = w.heap.size + 1 + l1.size + 1 + l.size + l2.size := by simp
      have hzz : (((w.alloc (.cells #[.bool a, .bool b, .bool c] 54)).later l1 d1).alloc (.cells #[.bool a, .bool b, .bool c] 89)).heap.size = w.heap.size + 1 + l1.size + 1 := by simp
      rw [hsz] at hrg0 ⊢
      obtain ⟨r, hr⟩ : ∃ r, w.heap.size + 1 + l1.size + 1 + l.size + l2.size = r := ⟨_, rfl⟩
      rw [hr] at hrg0 ⊢
      have hgb : w.heap.size + 1 + l1.size + 1 ≤ g := by have := HG.out; simp at this; omega
      have hrb : w.heap.size + 1 + l1.size + 1 ≤ r := by omega
      have HRG := Lib.hid hrg0
      clear hrg0 hsz hb0 hg0 hs0 hr hzz HO HG
      go_loopw [7, 8] (fun s7 _ wr => Inv2 a b c f D (((w.alloc (.cells #[.bool a, .bool b, .bool c] 54)).later l1 d1).alloc (.cells #[.bool a, .bool b, .bool c] 89)) g r s7 wr) (fun _ _ wr => wr.rangeLeft g r)
      case atStart => exact ⟨Maps.has D, Maps.size D, d3, l3, by rw [okB_start HH.out], rfl, HRG.out⟩
      case round =>
        clear HRG
        obtain ⟨left, cnt, d, l, rfl, rfl, hrg⟩ := hrel
        have HRG := Lib.hid hrg
        clear hrg
        go_wp2_with (first
          | (at_next; refine next_map rfl _ rfl (((w.alloc (.cells #[.bool a, .bool b, .bool c] 54)).later l1 d1).alloc (.cells #[.bool a, .bool b, .bool c] 89)) l d g r 2 D f left cnt HH.out (by simp; omega) rfl HRG.out (fun hl0 => ?_) (fun x y cnt1 l4 d4 hx hlk hrg1 hlt2 hen => ?_); all_goals (first
            | (have HX := Lib.hid hx; have HRG1 := Lib.hid hrg1; have HLK := Lib.hid hlk; clear hx hlk hrg1; obtain rfl | rfl | rfl := HKK.out x (by rw [HX.out]; rfl); all_goals (rcases Bool.eq_false_or_eq_true (okB f left a b c) with hok | hok))
            | (have HE := Lib.hid (okB_end (f := f) hl0 a b c); clear hl0; rcases Bool.eq_false_or_eq_true (okB f left a b c) with hok | hok))))
        · go_ret
          exact ⟨ret_int (by rw [← HS.out, scan_hit hlt (by rw [HF.out, ← HE.out]; exact hok)]), by repeat (first | exact Below.refl _ _ | apply bs_later | apply bs_alloc | apply bs_drew | apply bs_drewN)⟩
        · go_roundw
          case rel => exact ⟨k + 1, _, _, by omega, by go_num, rfl, Lib.hid (by rw [← HS.out, scan_miss hlt (by rw [HF.out, ← HE.out]; exact hok)])⟩
          case measure => simp [intOf]; omega
        · go_roundw
          case rel => exact ⟨_, cnt1, d4, l4, by simp only [okB_0 HX.out HLK.out, hok, Bool.true_and, Bool.false_and], rfl, HRG1.out⟩
          case measure => rw [HRG1.out.left_eq, HRG.out.left_eq]; exact hlt2
        · go_roundw
          case rel => exact ⟨_, cnt1, d4, l4, by simp only [okB_0 HX.out HLK.out, hok, Bool.true_and, Bool.false_and], rfl, HRG1.out⟩
          case measure => rw [HRG1.out.left_eq, HRG.out.left_eq]; exact hlt2
        · go_roundw
          case rel => exact ⟨_, cnt1, d4, l4, by simp only [okB_1 HX.out HLK.out, hok, Bool.true_and, Bool.false_and], rfl, HRG1.out⟩
          case measure => rw [HRG1.out.left_eq, HRG.out.left_eq]; exact hlt2
        · go_roundw
          case rel => exact ⟨_, cnt1, d4, l4, by simp only [okB_1 HX.out HLK.out, hok, Bool.true_and, Bool.false_and], rfl, HRG1.out⟩
          case measure => rw [HRG1.out.left_eq, HRG.out.left_eq]; exact hlt2
        · go_roundw
          case rel => exact ⟨_, cnt1, d4, l4, by simp only [okB_2 HX.out HLK.out, hok, Bool.true_and, Bool.false_and], rfl, HRG1.out⟩
          case measure => rw [HRG1.out.left_eq, HRG.out.left_eq]; exact hlt2
        · go_roundw
          case rel => exact ⟨_, cnt1, d4, l4, by simp only [okB_2 HX.out HLK.out, hok, Bool.true_and, Bool.false_and], rfl, HRG1.out⟩
          case measure => rw [HRG1.out.left_eq, HRG.out.left_eq]; exact hlt2
    · obtain rfl : k = N := by omega
      go_wp2
      go_ret
      exact ⟨ret_int (by rw [← HS.out, Nat.sub_self]; rfl), by repeat (first | exact Below.refl _ _ | apply bs_later | apply bs_alloc | apply bs_drew | apply bs_drewN)⟩
end Go.Proofs.Ytffhfpdmfegcpaa.road
