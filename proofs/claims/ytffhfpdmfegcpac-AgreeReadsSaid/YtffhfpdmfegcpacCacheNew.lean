/- The contract of cache.New at the small config. -/
import Derived.Test.YtffhfpdmfegcpacAddr
import Derived.Test.YtffhfpdmfegcpacLists
import Derived.Test.YtffhfpdmfegcpacProgLaw
import Derived.OwnWalk
import Derived.Test.YtffhfpdmfegcpacRowsOwn
import Derived.Deep.AppendLies
namespace Go.Proofs.Ytffhfpdmfegcpac.cacheNew
open Go.ChangeShapes Go.WideShapes Go.ChangeAt Go.RowKit
open Go.Proofs.Ytffhfpdmfegcpac.base Go.Proofs.Ytffhfpdmfegcpac.flat Go.Proofs.Ytffhfpdmfegcpac.table Go.Proofs.Ytffhfpdmfegcpac.prog Go.Proofs.Ytffhfpdmfegcpac.addr
set_option linter.unusedVariables false
set_option linter.unusedSimpArgs false

theorem info_row : (Try.prog.info? 133).map (fun i => (i.zero, i.size, i.bytes)) = some (some (.agg #[.slice none 0 0, .bool false, .bool false, .bool false]), 4, 32) := by kernel_rfl
theorem info_wayN : (Try.prog.info? 65).map (fun i => (i.zero, i.size, i.bytes)) = some (some (.agg #[.int .i64 0, .int .i64 0, .int .u64 0, .int .u64 0, .int .u64 0, .int .u64 0]), 6, 48) := by kernel_rfl
theorem four_newN {W : World} {a b c d : Value} {t : TypeId} {g : Nat} (hg : g = W.heap.size) : ∀ (j : Nat) (u : Value), [a, b, c, d][j]? = some u → (W.alloc (.cells #[a, b, c, d] t)).cell? ((⟨g, 0, none⟩ : Addr).add j) = some u := by
  intro j u h
  have hj : j < 4 := (List.getElem?_eq_some_iff.1 h).1
  have e : (⟨g, 0, none⟩ : Addr).add j = ⟨g, j, none⟩ := by unfold Addr.add; split <;> simp_all
  rw [e, World.cell?_alloc_at _ _ _ _ hg]
  simpa using h
theorem own_baseN {w : World} {b b' size n : Nat} {e : TypeId} {v : Value} {xs : List Value} (h : w.ownsRow b e size v n xs) (hb : b = b') : w.ownsRow b' e size v n xs := hb ▸ h
theorem kept_none {w w' : World} {b size n : Nat} {e : TypeId} {v : Value} {xs : List Value} (h : w.ownsRow b e size v n xs) (hg : w.grownBy w' none) : w'.ownsRow b e size v n xs :=
  h.kept hg (by
    cases hb : v.ownBlock with
    | none => exact .inl rfl
    | some z => exact .inr (fun e => by cases e))
def RelN (w0 : World) (v i : Value) (wr : World) : Prop :=
  ∃ (k : Nat) (l : Array Obj) (d : Nat) (xs : List Value), k ≤ 1 ∧ i = .int .i64 k ∧ wr = w0.later l d ∧ (w0.later l d).ownsRow w0.heap.size 133 4 v k xs
set_option maxHeartbeats 2000000 in
set_option maxRecDepth 100000 in
theorem new_small (w : World) : Calls Try.prog 75 #[.agg #[.int .i64 2, .int .i64 1, .int .i64 1, .int .i64 1]] w fun e w' => ∃ a c, e = .returned (.tuple #[.slice a 1 c, .int .i64 0]) ∧ Below w.heap.size w w' := by
  have PC := fun w => addr.check_any 2 1 1 1 w
  rw [show cfgE 2 1 1 1 = 0 by decide] at PC
  have HC := Lib.hid PC
  obtain ⟨i4, ji, jz0, jz1, jz2⟩ := info_parts info_row
  obtain ⟨i6, hi, hz0, hz1, hz2⟩ := info_parts info_wayN
  clear PC
  go_enter Try.func75, Try.ntmps75
  go_wp2_with (go_at_call 62; refine (HC.out _).mono ?_; rintro e w1 ⟨rfl, hb1⟩; obtain ⟨l1, d1, rfl⟩ := later_of hb1; clear hb1)
  go_loopw [5, 13] (RelN (w.alloc (.cells #[.int .i64 2, .int .i64 1, .int .i64 1, .int .i64 1] 54))) (fun _ i _ => 1 - (intOf i).toNat)
  case atStart => exact ⟨0, _, _, [], Nat.zero_le _, rfl, rfl, World.ownsRow_nil _ _ _ _⟩
  case round =>
    obtain ⟨k, l, d, xs, hk, rfl, rfl, hown⟩ := hrel
    obtain ⟨sa, sc, hv⟩ := own_form hown
    subst hv
    by_cases hlt : k < 1
    · obtain rfl : k = 0 := by omega
      have HO := Lib.hid hown
      clear hown hk
      go_wp2_with (first
        | (at_make; refine wpList_make_full _ rfl _ _ 129 rfl (w.heap.size + 1) 65 i6 _ 6 Try.underlying129 hi hz0 hz1 .i64 .i64 _ _ 1 rfl rfl rfl rfl (by rw [hz2]; omega) (by unfold maxLen; omega) (by first | (simp; done) | (simp; omega)) ?_; intro w2 hown2 hgrow2; have HO2 := Lib.hid (kept_none HO.out hgrow2); have hb2 := below_grown (W0 := (w.alloc (.cells #[.int .i64 2, .int .i64 1, .int .i64 1, .int .i64 1] 54))) (bs_later (Below.refl _ _) _ _) hgrow2 (fun k hk => by cases hk); obtain ⟨l2, d2, rfl⟩ := later_of hb2; clear hown2 hgrow2 hb2)
        | (at_builtin; refine wpList_append_own _ rfl _ _ 63 rfl (w.heap.size + 1) 133 i4 _ 4 32 Try.underlying63 ji jz0 jz1 jz2 rfl (by decide) _ _ _ rfl (own_baseN (HO2.out.alloc _) (by simp)) ⟨_, 0, none⟩ 1 1 [_, .bool false, .bool false, .bool false] rfl rfl (four_newN (by simp)) (fun u hu => by simp at hu; rcases hu with rfl | rfl | rfl | rfl <;> rfl) (by unfold maxLen; omega) (by omega) (by first | (simp; done) | (simp; omega)) ?_; intro v' w1 hown' hgrow _; have hb := below_grown (W0 := (w.alloc (.cells #[.int .i64 2, .int .i64 1, .int .i64 1, .int .i64 1] 54))) (by repeat (first | exact Below.refl _ _ | apply bs_later | apply bs_alloc | apply bs_drew | apply bs_drewN)) hgrow (fun g hg => (HO2.out.lt g hg).1); obtain ⟨l6, d6, rfl⟩ := later_of hb; have HO' := Lib.hid hown'; clear hb hgrow hown'))
      go_wp2_with (fail)
      go_roundw
      case rel => exact ⟨1, _, _, _, Nat.le_refl _, by go_num, rfl, own_baseN HO'.out (by simp)⟩
      case measure => simp [intOf]
    · obtain rfl : k = 1 := by omega
      clear hown
      go_wp2
      go_ret2
      exact ⟨sa, sc, rfl, (by repeat (first | exact Below.refl _ _ | apply bs_later | apply bs_alloc | apply bs_drew | apply bs_drewN))⟩
set_option maxRecDepth 100000 in
theorem smallN_any (w : World) : Calls Try.prog 51 #[] w (Ret (.agg #[.int .i64 2, .int .i64 1, .int .i64 1, .int .i64 1]) w) := by
  go_enter Try.func51, Try.ntmps51
  go_wp2
  go_returns
  exact ⟨rfl, (by repeat (first | exact Below.refl _ _ | apply bs_later | apply bs_alloc | apply bs_drew | apply bs_drewN))⟩
end Go.Proofs.Ytffhfpdmfegcpac.cacheNew
