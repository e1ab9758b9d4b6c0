/- The contracts of ring.New and ring.Longest. -/
import Derived.Test.YtffhfpdmfegcpaaRingCheck
import Derived.Test.YtffhfpdmfegcpaaSlotRow
namespace Go.Proofs.Ytffhfpdmfegcpaa.slot
open Go.ChangeShapes Go.WideShapes Go.ChangeAt Go.RowKit
open Go.Proofs.Ytffhfpdmfegcpaa.base Go.Proofs.Ytffhfpdmfegcpaa.flat Go.Proofs.Ytffhfpdmfegcpaa.table Go.Proofs.Ytffhfpdmfegcpaa.addr
set_option linter.unusedVariables false
set_option linter.unusedSimpArgs false

def zeroS : S4 := ⟨0, false, 0, 0⟩
theorem made_slots (n : Nat) : (madeCells #[.int .i64 0, .bool false, .int .i64 0, .int .i64 0] (n * 4)).toList = cellsS (List.replicate n zeroS) := by
  apply List.ext_getElem?
  intro j
  by_cases hj : j < n * 4
  · have hx : (List.replicate n zeroS)[j / 4]? = some zeroS := by rw [List.getElem?_replicate, if_pos (by omega)]
    have e := cellsS_get _ (j / 4) (j % 4) zeroS hx (by omega)
    rw [show j / 4 * 4 + j % 4 = j by omega] at e
    rw [e]
    have h4 : j % 4 = 0 ∨ j % 4 = 1 ∨ j % 4 = 2 ∨ j % 4 = 3 := by omega
    have e2 : (madeCells #[.int .i64 0, .bool false, .int .i64 0, .int .i64 0] (n * 4)).toList[j]? = some (#[Value.int .i64 0, .bool false, .int .i64 0, .int .i64 0][j % 4]!) := by
      simp [madeCells, hj]
    rw [e2]
    rcases h4 with h | h | h | h <;> rw [h] <;> rfl
  · rw [List.getElem?_eq_none (by simp [madeCells]; omega), List.getElem?_eq_none (by rw [len_cellsS, List.length_replicate]; omega)]
/-- the ring that is made, with its first k slots set -/
def newL (cn : Int) (n k : Nat) : List S4 := (List.range n).map fun i => if i < k then ⟨(i : Int) % cn, false, 0, 0⟩ else zeroS
theorem len_newL (cn : Int) (n k : Nat) : (newL cn n k).length = n := by simp [newL]
theorem newL_get {cn : Int} {n k i : Nat} (h : i < n) : (newL cn n k)[i]? = some (if i < k then ⟨(i : Int) % cn, false, 0, 0⟩ else zeroS) := by
  simp [newL, List.getElem?_range h]
theorem newL_zero (cn : Int) (n : Nat) : List.replicate n zeroS = newL cn n 0 := by
  apply List.ext_getElem?
  intro i
  by_cases h : i < n
  · rw [newL_get h, if_neg (by omega), List.getElem?_replicate, if_pos h]
  · rw [List.getElem?_eq_none (by simp; omega), List.getElem?_eq_none (by rw [len_newL]; omega)]
theorem newL_succ {cn : Int} {n k : Nat} (h : k < n) : (newL cn n k).set k ⟨(k : Int) % cn, false, 0, 0⟩ = newL cn n (k + 1) := by
  apply List.ext_getElem?
  intro i
  by_cases hi : i < n
  · rw [newL_get hi, List.getElem?_set]
    by_cases e : k = i
    · subst e; simp [len_newL, hi]
    · rw [if_neg e, newL_get hi]
      by_cases h1 : i < k
      · rw [if_pos h1, if_pos (by omega)]
      · rw [if_neg h1, if_neg (by omega)]
  · rw [List.getElem?_eq_none (by simp [len_newL]; omega), List.getElem?_eq_none (by rw [len_newL]; omega)]

def RelNew (cn : Int) (n g base : Nat) (w0 : World) (i : Value) (wr : World) : Prop :=
  ∃ (k : Nat) (l : Array Obj) (d : Nat), k ≤ n ∧ i = .int .i64 k ∧ wr = w0.later l d ∧ (w0.later l d).ownsRow base 67 4 (.slice (some ⟨g, 0, none⟩) n n) n (cellsS (newL cn n k))

set_option maxHeartbeats 4000000 in
set_option maxRecDepth 100000 in
theorem ringNew_ok (cn cs cy cb : Int) (n : Nat) (w : World) (hn : 1 ≤ n ∧ n ≤ 8) (hc : CfgOK cn cs cy cb) :
    Calls Try.prog 59 #[.agg #[.int .i64 cn, .int .i64 cs, .int .i64 cy, .int .i64 cb], .int .i64 n] w fun e w' => ∃ g, e = .returned (.tuple #[.slice (some ⟨g, 0, none⟩) n n, .int .i64 0]) ∧ SlotsAt w' (some ⟨g, 0, none⟩) (newL cn n n) ∧ Below w.heap.size w w' := by
  obtain ⟨i0, hi, hz0, hz1, hz2⟩ := info_parts info_slot
  have PC := fun w => check_any cn cs cy cb w
  rw [cfgE_ok hc] at PC
  have HC := Lib.hid PC
  have hcn : 2 ≤ cn ∧ cn ≤ 8 := ⟨hc.1, hc.2.1⟩
  obtain ⟨hn1, hn8⟩ := hn
  have hn1' : (1 : Int) ≤ n := by omega
  have hn8' : (n : Int) ≤ 8 := by omega
  clear PC hc
  go_enter Try.func59, Try.ntmps59
  go_wp2_with (first
    | (go_at_call 28; refine (HC.out _).mono ?_; rintro e w1 ⟨rfl, hb1⟩; obtain ⟨l1, d1, rfl⟩ := later_of hb1; clear hb1)
    | (at_make; refine wpList_make_full _ rfl _ _ 63 rfl (w.heap.size + 1) 67 i0 _ 4 Try.underlying63 hi hz0 hz1 .i64 .i64 _ _ n rfl rfl rfl rfl ?m1 ?m2 ?m3 ?_))
  case m1 => rw [hz2]; omega
  case m2 => unfold maxLen; omega
  case m3 => simp
  intro w2 hown hgrow
  have hb2 := below_grown (W0 := w.alloc (.cells #[.int .i64 cn, .int .i64 cs, .int .i64 cy, .int .i64 cb] 42)) (bs_later (Below.refl _ _) _ _) hgrow (fun k hk => by cases hk)
  obtain ⟨l2, d2, rfl⟩ := later_of hb2
  rw [made_slots, newL_zero cn] at hown
  generalize w.heap.size + 1 + l1.size = g at *
  have HO := Lib.hid hown
  clear hown hgrow hb2
  go_wp2
  go_loopw [24] (RelNew cn n g (w.heap.size + 1) (w.alloc (.cells #[.int .i64 cn, .int .i64 cs, .int .i64 cy, .int .i64 cb] 42))) (fun i _ => n - (intOf i).toNat)
  case atStart => exact ⟨0, _, _, by omega, rfl, rfl, HO.out⟩
  case round =>
    obtain ⟨k, l, d, hk, rfl, rfl, hown⟩ := hrel
    have HO := Lib.hid hown
    by_cases hlt : k < n
    · have hg := (own_block hown).1
      have hc0 := hown.cellAt (k * 4) (by omega)
      have hf0 := hown.frozenAt (k * 4)
      rw [show k * 4 = k * 4 + 0 by omega, cellsS_get _ k 0 _ (newL_get hlt) (by omega)] at hc0
      simp only [Nat.add_zero] at hc0
      obtain ⟨l3, d3, e3, -, ho3⟩ := own_store hown (by simp) hg (k * 4) (.int .i64 ((k : Int) % cn))
      have HO3 := Lib.hid ho3
      clear hown ho3
      have hset : (cellsS (newL cn n k)).set (k * 4) (.int .i64 ((k : Int) % cn)) = cellsS (newL cn n (k + 1)) := by
        rw [← newL_succ hlt, ← cellsS_set _ k 0 _ ⟨(k : Int) % cn, false, 0, 0⟩ _ (newL_get hlt) (by omega) (by rw [if_neg (by omega)]; rfl)]
        rfl
      rw [hset] at HO3
      go_wp2
      exact ⟨⟨k + 1, l3, d3, by omega, by go_num, rfl, HO3.out⟩, by simp [intOf]; omega⟩
    · obtain rfl : k = n := by omega
      clear hown
      go_wp2
      go_ret2
      exact ⟨g, rfl, own_slots (by rw [len_newL]; exact HO.out), (by repeat (first | exact Below.refl _ _ | apply bs_later | apply bs_alloc | apply bs_drew | apply bs_drewN))⟩
/-- what New answers -/
def newE (cn cs cy cb slots : Int) : Int := if cfgE cn cs cy cb = 0 then (if slots < 1 ∨ 8 < slots then 4 else 0) else cfgE cn cs cy cb
def NewPost (cn cs cy cb slots : Int) (w : World) (e : Ending) (w' : World) : Prop :=
  Below w.heap.size w w' ∧ ((newE cn cs cy cb slots = 0 ∧ ∃ (g n : Nat), slots = n ∧ e = .returned (.tuple #[.slice (some ⟨g, 0, none⟩) n n, .int .i64 0]) ∧ SlotsAt w' (some ⟨g, 0, none⟩) (newL cn n n))
    ∨ (¬ newE cn cs cy cb slots = 0 ∧ e = .returned (.tuple #[.slice none 0 0, .int .i64 (newE cn cs cy cb slots)])))
set_option maxHeartbeats 4000000 in
set_option maxRecDepth 100000 in
theorem ringNew_any (cn cs cy cb slots : Int) (w : World) :
    Calls Try.prog 59 #[.agg #[.int .i64 cn, .int .i64 cs, .int .i64 cy, .int .i64 cb], .int .i64 slots] w (NewPost cn cs cy cb slots w) := by
  have PC := fun w => check_any cn cs cy cb w
  by_cases hc : CfgOK cn cs cy cb
  · by_cases hl : slots < 1 ∨ 8 < slots
    · have hE : newE cn cs cy cb slots = 4 := by unfold newE; rw [if_pos (cfgE_ok hc), if_pos hl]
      rw [cfgE_ok hc] at PC
      have HC := Lib.hid PC
      have HE := Lib.hid hE
      have hl' : slots < 1 ∨ (1 ≤ slots ∧ 8 < slots) := by omega
      clear PC hc hl hE
      rcases hl' with h1 | ⟨h1, h8⟩
      all_goals
        go_enter Try.func59, Try.ntmps59
        go_wp2_with (go_at_call 28; refine (HC.out _).mono ?_; rintro e w1 ⟨rfl, hb1⟩; obtain ⟨l1, d1, rfl⟩ := later_of hb1; clear hb1)
        go_ret2
        exact ⟨(by repeat (first | exact Below.refl _ _ | apply bs_later | apply bs_alloc | apply bs_drew | apply bs_drewN)), .inr ⟨by rw [HE.out]; decide, congrArg (fun z => Ending.returned (.tuple #[.slice none 0 0, .int .i64 z])) HE.out.symm⟩⟩
    · have hE : newE cn cs cy cb slots = 0 := by unfold newE; rw [if_pos (cfgE_ok hc), if_neg hl]
      obtain ⟨n, rfl⟩ : ∃ n : Nat, slots = n := ⟨slots.toNat, by omega⟩
      refine (ringNew_ok cn cs cy cb n w (by omega) hc).mono ?_
      rintro e w' ⟨g, rfl, h, hb⟩
      exact ⟨hb, .inl ⟨hE, g, n, rfl, rfl, h⟩⟩
  · have hE : newE cn cs cy cb slots = cfgE cn cs cy cb := by unfold newE; rw [if_neg (by rw [cfgE_bad hc]; decide)]
    rw [cfgE_bad hc] at PC hE
    have HC := Lib.hid PC
    have HE := Lib.hid hE
    clear PC hc hE
    go_enter Try.func59, Try.ntmps59
    go_wp2_with (go_at_call 28; refine (HC.out _).mono ?_; rintro e w1 ⟨rfl, hb1⟩; obtain ⟨l1, d1, rfl⟩ := later_of hb1; clear hb1)
    go_ret2
    exact ⟨(by repeat (first | exact Below.refl _ _ | apply bs_later | apply bs_alloc | apply bs_drew | apply bs_drewN)), .inr ⟨by rw [HE.out]; decide, congrArg (fun z => Ending.returned (.tuple #[.slice none 0 0, .int .i64 z])) HE.out.symm⟩⟩

end Go.Proofs.Ytffhfpdmfegcpaa.slot
