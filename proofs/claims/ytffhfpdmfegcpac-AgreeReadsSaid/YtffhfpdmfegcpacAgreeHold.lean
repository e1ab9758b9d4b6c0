/- The contract of agree.holders, at caches that are right. -/
import Derived.Test.YtffhfpdmfegcpacAgreeLaw
import Derived.Lib.SmallJoins
import Derived.Deep.DeepCutAuto
import Derived.Deep.CutBlock
namespace Go.Proofs.Ytffhfpdmfegcpac.agree
open Go.ChangeShapes Go.WideShapes Go.ChangeAt Go.RowKit
open Go.Joins (ownsRow_le)
open Go.Proofs.Ytffhfpdmfegcpac.base Go.Proofs.Ytffhfpdmfegcpac.flat Go.Proofs.Ytffhfpdmfegcpac.table Go.Proofs.Ytffhfpdmfegcpac.prog Go.Proofs.Ytffhfpdmfegcpac.same Go.Proofs.Ytffhfpdmfegcpac.addr Go.Proofs.Ytffhfpdmfegcpac.bank Go.Proofs.Ytffhfpdmfegcpac.ways Go.Proofs.Ytffhfpdmfegcpac.state Go.Proofs.Ytffhfpdmfegcpac.turn
set_option linter.unusedVariables false
set_option linter.unusedSimpArgs false

theorem info_held : (Try.prog.info? 126).map (fun i => (i.zero, i.size, i.bytes)) = some (some (.agg #[.int .i64 0, .int .i64 0, .int .i64 0, .int .u64 0, .int .u64 0, .int .u64 0, .int .u64 0]), 7, 56) := by kernel_rfl
theorem seven_new {W : World} {a b c d e f g : Value} {t : TypeId} {z : Nat} (hg : z = W.heap.size) : ∀ (j : Nat) (u : Value), [a, b, c, d, e, f, g][j]? = some u → (W.alloc (.cells #[a, b, c, d, e, f, g] t)).cell? ((⟨z, 0, none⟩ : Addr).add j) = some u := by
  intro j u h
  have hj : j < 7 := (List.getElem?_eq_some_iff.1 h).1
  have e : (⟨z, 0, none⟩ : Addr).add j = ⟨z, j, none⟩ := by unfold Addr.add; split <;> simp_all
  rw [e, World.cell?_alloc_at _ _ _ _ hg]
  simpa using h
def cellsH (l : List H7) : List Value := l.flatMap H7.cells
theorem cellsH_snoc (l : List H7) (x : H7) : cellsH (l ++ [x]) = cellsH l ++ x.cells := by simp [cellsH]
/-- who holds a line, told in a row of the call's own -/
def HoldPost (l : List H7) (w : World) (e : Ending) (w' : World) : Prop := ∃ v, e = .returned v ∧ w'.ownsRow w.heap.size 126 7 v l.length (cellsH l) ∧ Below w.heap.size w w'
def RelH (cs L : Int) (hs : List (List R4)) (g : Nat) (w0 : World) (v i : Value) (wr : World) : Prop :=
  ∃ (k : Nat) (l : Array Obj) (d : Nat), k ≤ hs.length ∧ i = .int .i64 k ∧ wr = w0.later l d ∧ (w0.later l d).ownsRow g 126 7 v (holdL cs (hs.take k) L).length (cellsH (holdL cs (hs.take k) L))
theorem take_snocH {α : Type} {xs : List α} {k : Nat} {x : α} (h : xs[k]? = some x) : xs.take (k + 1) = xs.take k ++ [x] := by rw [List.take_add_one, h]; rfl

set_option maxHeartbeats 4000000 in
set_option maxRecDepth 100000 in
theorem holders_any (cn cs cy cb : Int) (xs : List Int) (hs : List (List R4)) (hok : ∀ h ∈ hs, ∀ r ∈ h, r.Ok) (hcs : ∀ h ∈ hs, cacheE cn cs cy cb h = 0) (hn8 : hs.length ≤ 8) (L : Int) (hL : 0 ≤ L ∧ L ≤ 15) (ca : Option Addr) (cc : Nat) (w : World) (hH : CachesAt w ca hs) :
    Calls Try.prog 61 #[.agg #[.int .i64 cn, .int .i64 cs, .int .i64 cy, .int .i64 cb], .agg (worldA ca hs.length cc xs), .int .i64 L] w (HoldPost (holdL cs hs L) w) := by
  have h0 := worldA_head ca hs.length cc xs
  have h0' : ∀ h, (worldA ca hs.length cc xs)[0]'h = .slice ca hs.length cc := fun h => by have := Array.getElem?_eq_getElem h; rw [h0] at this; exact (Option.some.inj this).symm
  have HH := Lib.hid hH
  have HOK := Lib.hid hok
  have HCS := Lib.hid hcs
  have HL := Lib.hid hL
  have hn8I : (hs.length : Int) ≤ 8 := by omega
  obtain ⟨i4, ji, jz0, jz1, jz2⟩ := info_parts info_held
  clear hH hok hcs hL
  generalize worldA ca hs.length cc xs = A at *
  go_enter Try.func61, Try.ntmps61
  go_wp2
  go_loopw [7, 16] (RelH cs L hs ((w.alloc (.cells #[.int .i64 cn, .int .i64 cs, .int .i64 cy, .int .i64 cb] 54)).alloc (.cells A 57)).heap.size ((w.alloc (.cells #[.int .i64 cn, .int .i64 cs, .int .i64 cy, .int .i64 cb] 54)).alloc (.cells A 57))) (fun _ i _ => hs.length - (intOf i).toNat)
  case atStart => exact ⟨0, #[], _, Nat.zero_le _, rfl, later_zero _, World.ownsRow_nil _ _ _ _⟩
  case round =>
    obtain ⟨k, l, d, hk, rfl, rfl, hown⟩ := hrel
    obtain ⟨sa, sc, hv⟩ := own_form hown
    subst hv
    by_cases hlt : k < hs.length
    · obtain ⟨h, hh⟩ := get_some hlt
      obtain ⟨b, off, rfl⟩ := ListsAt.form HH.out hh
      obtain ⟨p, pc, e0, q1, q2, q3, q4⟩ := ListsAt.at HH.out hh
      have hinb : inB w b := table.lt_of_cell e0
      have hmem := List.mem_of_getElem? hh
      have hce := HCS.out h hmem
      obtain ⟨hcfg, hlen, _⟩ := cacheE_ok hce
      have hcs1 : 1 ≤ cs := hcfg.2.2.1
      obtain ⟨i, hi⟩ := Int.eq_ofNat_of_zero_le (Int.emod_nonneg L (by omega : cs ≠ 0))
      have hil : i < h.length := by
        have := Int.emod_lt_of_pos L (by omega : 0 < cs)
        omega
      obtain ⟨r, hr⟩ := get_some hil
      have HO := Lib.hid hown
      have HQ := Lib.hid q4
      have HJ : Hid (k + 1 ≤ hs.length) := Lib.hid hlt
      have hkI : (k : Int) < hs.length := by omega
      have HSN : Hid (holdL cs (hs.take (k + 1)) L = holdL cs (hs.take k) L ++ oneH k (hasC cs L h)) := Lib.hid (by
        rw [take_snocH hh, holdL_snoc]
        have : (hs.take k).length = k := by rw [List.length_take]; omega
        rw [this])
      have HLN : Hid ((holdL cs (hs.take k) L).length ≤ 8) := Lib.hid (by
        have h1 := holdF_len cs L (hs.take k) 0
        have h2 : (hs.take k).length ≤ 8 := by rw [List.length_take]; omega
        exact Nat.le_trans h1 h2)
      rcases hasC_of hi hr with ⟨hno, hf⟩ | ⟨j, x, hyes, hf, hx⟩
      · -- A begin
        have PF := fun w h' => cacheFind_no cn cs cy cb h (HOK.out h hmem) L p h.length pc w rfl (Nat.le_trans q1 q2) h' hce HL.out i r hi hr hf
        have HF := Lib.hid PF
        have HS2 : Hid (holdL cs (hs.take (k + 1)) L = holdL cs (hs.take k) L) := Lib.hid (by rw [HSN.out, hno]; exact List.append_nil _)
        clear hown hk q3 q4 hh hmem hce hcfg hlen hi hil hr PF hno hf HSN hcs1
        go_wp2_with (go_at_call 20; refine (HF.out _ (CacheAt.below HQ.out (by repeat (first | exact Below.refl _ _ | apply bs_later | apply bs_alloc | apply bs_drew | apply bs_drewN)))).mono ?_; rintro e w1 ⟨rfl, hb1⟩; obtain ⟨l2, d2, rfl⟩ := later_of hb1; clear hb1; rw [later_later])
        go_roundw
        case rel => exact ⟨k + 1, _, _, HJ.out, by go_num, later_alloc _ _ _ _, by rw [← later_alloc, HS2.out]; exact (own_more HO.out l2 d2).alloc _⟩
        case measure => simp [intOf]; omega
        -- A end
      · -- B begin
        have PF := fun w h' => cacheFind_yes cn cs cy cb h (HOK.out h hmem) L p h.length pc w rfl (Nat.le_trans q1 q2) h' hce HL.out i r hi hr j x hf hx
        have HF := Lib.hid PF
        have HS2 : Hid (holdL cs (hs.take (k + 1)) L = holdL cs (hs.take k) L ++ [⟨k, x⟩]) := Lib.hid (by rw [HSN.out, hyes]; rfl)
        clear hown hk q3 q4 hh hmem hce hcfg hlen hi hil hr PF hyes hf hx HSN hcs1
        obtain ⟨xs', xl, xa, xb, xc, xd⟩ := x
        simp only at HF
        go_wp2_with (first
          | (go_at_call 20; refine (HF.out _ (CacheAt.below HQ.out (by repeat (first | exact Below.refl _ _ | apply bs_later | apply bs_alloc | apply bs_drew | apply bs_drewN)))).mono ?_; rintro e w1 ⟨rfl, hb1⟩; obtain ⟨l2, d2, rfl⟩ := later_of hb1; clear hb1; rw [later_later]; have HO5 := Lib.hid (own_more HO.out l2 d2))
          | (at_builtin; refine wpList_append_own _ rfl _ _ 121 rfl (w.heap.size + 1 + 1) 126 i4 _ 7 56 Try.underlying121 ji jz0 jz1 jz2 rfl (by decide) _ _ _ rfl (ownsRow_le ((HO5.out.alloc _).alloc _) (by first | (simp; done) | (simp; omega))) ⟨_, 0, none⟩ 1 1 [.int .i64 (k : Int), .int .i64 xs', .int .i64 xl, .int .u64 xa, .int .u64 xb, .int .u64 xc, .int .u64 xd] rfl rfl (seven_new (by simp)) (fun u hu => by simp at hu; rcases hu with rfl | rfl | rfl | rfl | rfl | rfl | rfl <;> rfl) (by have := HLN.out; unfold maxLen; omega) (by have := HLN.out; omega) (by first | (simp; done) | (simp; omega)) ?_; intro v' w1 hown' hgrow _; have hb := below_grown (W0 := (w.alloc (.cells #[.int .i64 cn, .int .i64 cs, .int .i64 cy, .int .i64 cb] 54)).alloc (.cells A 57)) (by repeat (first | exact Below.refl _ _ | apply bs_later | apply bs_alloc | apply bs_drew | apply bs_drewN)) hgrow (fun g hg => by have := (HO.out.lt g hg).1; exact this); obtain ⟨l3, d3, rfl⟩ := later_of hb; have HO' := Lib.hid hown'; clear hown' hgrow hb))
        go_roundw
        case rel => exact ⟨k + 1, _, _, HJ.out, by go_num, rfl, by rw [HS2.out, cellsH_snoc, List.length_append]; exact ownsRow_le HO'.out (by simp)⟩
        case measure => simp [intOf]; omega
        -- B end
    · obtain rfl : k = hs.length := by omega
      have htk : hs.take hs.length = hs := List.take_of_length_le (Nat.le_refl _)
      rw [htk] at hown ⊢
      have HO := Lib.hid hown
      clear hown htk
      go_wp2
      go_ret
      exact ⟨_, rfl, ownsRow_le HO.out (by first | (simp; done) | (simp; omega)), (by repeat (first | exact Below.refl _ _ | apply bs_later | apply bs_alloc | apply bs_drew | apply bs_drewN))⟩
end Go.Proofs.Ytffhfpdmfegcpac.agree
