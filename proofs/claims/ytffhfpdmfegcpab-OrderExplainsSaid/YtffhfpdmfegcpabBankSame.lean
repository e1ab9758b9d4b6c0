/- The contract of bank.Same: the addresses at which two memories differ. -/
import Derived.Test.YtffhfpdmfegcpabBank
import Derived.Lib.SmallJoins
namespace Go.Proofs.Ytffhfpdmfegcpab.bankSame
open Go.ChangeShapes Go.WideShapes Go.ChangeAt Go.RowKit
open Go.Joins (ownsRow_le)
open Go.Proofs.Ytffhfpdmfegcpab.base Go.Proofs.Ytffhfpdmfegcpab.flat Go.Proofs.Ytffhfpdmfegcpab.same Go.Proofs.Ytffhfpdmfegcpab.words Go.Proofs.Ytffhfpdmfegcpab.addr Go.Proofs.Ytffhfpdmfegcpab.bank
set_option linter.unusedVariables false
set_option linter.unusedSimpArgs false

/-- the addresses below k at which the two differ -/
def diffs (xs ys : List Int) : Nat → List Int
  | 0 => []
  | k + 1 => diffs xs ys k ++ (if wordV xs k = wordV ys k then [] else [(k : Int)])
theorem diffs_eq {xs ys : List Int} {k : Nat} (h : wordV xs k = wordV ys k) : diffs xs ys (k + 1) = diffs xs ys k := by simp [diffs, h]
theorem diffs_ne {xs ys : List Int} {k : Nat} (h : ¬ wordV xs k = wordV ys k) : diffs xs ys (k + 1) = diffs xs ys k ++ [(k : Int)] := by simp [diffs, h]
theorem diffs_len (xs ys : List Int) : ∀ k, (diffs xs ys k).length ≤ k
  | 0 => Nat.le_refl _
  | k + 1 => by
    have := diffs_len xs ys k
    by_cases h : wordV xs k = wordV ys k
    · rw [diffs_eq h]; omega
    · rw [diffs_ne h, List.length_append]; simp; omega

theorem info_int : (Try.prog.info? 3).map (fun i => (i.zero, i.size, i.bytes)) = some (some (.int .i64 0), 1, 8) := by kernel_rfl
theorem one_new {W : World} {v : Value} {t : TypeId} {g : Nat} (hg : g = W.heap.size) : ∀ (j : Nat) (u : Value), [v][j]? = some u → (W.alloc (.cells #[v] t)).cell? ((⟨g, 0, none⟩ : Addr).add j) = some u := by
  intro j u h
  subst hg
  cases j with
  | zero => simp at h; subst h; simp [Addr.add]
  | succ j => simp at h

/-- a slice of int of the call's own comes back -/
def RetInts (xs : List Int) (w : World) (e : Ending) (w' : World) : Prop :=
  ∃ v, e = .returned v ∧ w'.ownsRow w.heap.size 3 1 v xs.length (xs.map (Value.int .i64)) ∧ Below w.heap.size w w'

def Rel (xs ys : List Int) (w : World) (v i : Value) (wr : World) : Prop :=
  ∃ (k : Nat) (l : Array Obj) (d n : Nat), k ≤ 64 ∧ i = .int .i64 k ∧ wr = ((w.alloc (.cells (memA xs) 26)).alloc (.cells (memA ys) 26)).later l d ∧ n = (diffs xs ys k).length ∧ wr.ownsRow (w.heap.size + 2) 3 1 v n ((diffs xs ys k).map (Value.int .i64))

set_option maxHeartbeats 2000000 in
set_option maxRecDepth 100000 in
theorem same_any (xs ys : List Int) (hx : xs.length = 64) (hy : ys.length = 64) (w : World) :
    Calls Try.prog 20 #[.agg (memA xs), .agg (memA ys)] w (RetInts (diffs xs ys 64) w) := by
  have sx : (memA xs).size = 64 := by rw [size_memA, hx]
  have sy : (memA ys).size = 64 := by rw [size_memA, hy]
  have HX := Lib.hid hx
  have HY := Lib.hid hy
  clear hx hy
  obtain ⟨i0, hi, hz0, hz1, hz2⟩ := info_parts info_int
  go_enter Try.func20, Try.ntmps20
  go_wp2
  go_loopw [5, 11] (Rel xs ys w) (fun _ i _ => 64 - (intOf i).toNat)
  case atStart => exact ⟨0, #[], _, 0, by omega, rfl, later_zero _, rfl, World.ownsRow_nil _ _ _ _⟩
  case round =>
    obtain ⟨k, l, d, n, hk, rfl, rfl, hn, hown⟩ := hrel
    by_cases hlt : k < 64
    · have HO := Lib.hid hown
      have hn64 : n ≤ 64 := by have := diffs_len xs ys k; omega
      have HN := Lib.hid hn
      obtain ⟨sa, sc, hv⟩ := own_form hown
      subst hv
      clear hown hn
      by_cases hd : wordV xs k = wordV ys k
      · have hd' : (wordV xs k != wordV ys k) = false := by simpa using hd
        have HD := Lib.hid hd
        clear hd
        go_wp2_with (first
          | (refine wpList_load_r rfl 26 _ rfl _ rfl 64 _ Try.underlying26 rfl (by kernel_rfl) (by (simp [go_sem, sx, sy]; done)) ?_; intro C hC; simp [go_sem] at hC; subst hC)
          | (go_at_call 16; (first | (with_reducible refine (word_any xs HX.out _ _).mono ?_) | (with_reducible refine (word_any ys HY.out _ _).mono ?_)); rintro e w1 ⟨rfl, hb1⟩; obtain ⟨l1, d1, rfl⟩ := later_of hb1; clear hb1))
        rw [later_later, later_later]
        go_roundw
        case rel => exact ⟨k + 1, _, _, n, by omega, by go_num, rfl, by rw [diffs_eq HD.out]; exact HN.out, by rw [diffs_eq HD.out]; exact own_more HO.out _ _⟩
        case measure => simp [intOf]; omega
      · have hd' : (wordV xs k != wordV ys k) = true := by simpa using hd
        have HD := Lib.hid hd
        clear hd
        go_wp2_with (first
          | (at_builtin; refine wpList_append_own _ rfl _ _ 35 rfl (w.heap.size + 2) 3 i0 (.int .i64 0) 1 8 Try.underlying35 hi hz0 hz1 hz2 rfl (by decide) _ _ _ rfl ((own_later (own_later HO.out)).alloc _) _ 1 1 [.int .i64 (k : Int)] rfl rfl ?c1 ?c2 ?c3 ?c4 ?c5 ?_)
          | (refine wpList_load_r rfl 26 _ rfl _ rfl 64 _ Try.underlying26 rfl (by kernel_rfl) (by (simp [go_sem, sx, sy]; done)) ?_; intro C hC; simp [go_sem] at hC; subst hC)
          | (go_at_call 16; (first | (with_reducible refine (word_any xs HX.out _ _).mono ?_) | (with_reducible refine (word_any ys HY.out _ _).mono ?_)); rintro e w1 ⟨rfl, hb1⟩; obtain ⟨l1, d1, rfl⟩ := later_of hb1; clear hb1))
        case c1 => exact one_new (by simp)
        case c2 => intro u hu; simp at hu; subst hu; rfl
        case c3 => unfold maxLen; omega
        case c4 => omega
        case c5 => simp; omega
        intro v' w1 hown' hgrow _
        have hb : Below ((w.alloc (.cells (memA xs) 26)).alloc (.cells (memA ys) 26)).heap.size ((w.alloc (.cells (memA xs) 26)).alloc (.cells (memA ys) 26)) w1 :=
          below_grown (by repeat (first | exact Below.refl _ _ | apply bs_later | apply bs_alloc | apply bs_drew | apply bs_drewN)) hgrow (fun g hg => by have := (HO.out.lt g hg).1; simp; omega)
        obtain ⟨l3, d3, rfl⟩ := later_of hb
        have HO' := Lib.hid hown'
        clear hb hgrow hown'
        go_wp2
        go_roundw
        case rel => exact ⟨k + 1, _, _, n + 1, by omega, by go_num, rfl, by rw [diffs_ne HD.out, List.length_append, ← HN.out]; rfl, by rw [diffs_ne HD.out, List.map_append]; exact HO'.out⟩
        case measure => simp [intOf]; omega
    · obtain rfl : k = 64 := by omega
      have HO := Lib.hid hown
      have HN := Lib.hid hn
      clear hown hn
      go_wp2
      go_ret
      refine ⟨_, rfl, ?_, (by repeat (first | exact Below.refl _ _ | apply bs_later | apply bs_alloc | apply bs_drew | apply bs_drewN))⟩
      rw [← HN.out]
      exact ownsRow_le HO.out (by omega)

end Go.Proofs.Ytffhfpdmfegcpab.bankSame
