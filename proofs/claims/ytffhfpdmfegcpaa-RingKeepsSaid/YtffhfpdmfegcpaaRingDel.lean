/- The contracts of RingKeeps's test of a node told, and of slices.DeleteFunc with it at a row of the call's own. -/
import Derived.Test.YtffhfpdmfegcpaaDelLay
import Derived.Test.YtffhfpdmfegcpaaSortOwnA
import Derived.Test.YtffhfpdmfegcpaaContains
namespace Go.Proofs.Ytffhfpdmfegcpaa.slot
open Go.ChangeShapes Go.WideShapes Go.ChangeAt Go.RowKit
open Go.Proofs.Ytffhfpdmfegcpaa.base Go.Proofs.Ytffhfpdmfegcpaa.flat Go.Proofs.Ytffhfpdmfegcpaa.table Go.Proofs.Ytffhfpdmfegcpaa.addr
set_option linter.unusedVariables false
set_option linter.unusedSimpArgs false

theorem del1_gives (T : List Int) (a : Option Addr) (m c : Nat) (hT : T.length = m) (hm : m ≤ maxLen) (k : Int) (g : Nat) (W : World) (hc : W.cell? ⟨g, 0, none⟩ = some (.slice a m c)) (hi : IntsAt .i64 W a T) :
    FnGives Try.prog 43 #[.pointer (some ⟨g, 0, none⟩)] #[.int .i64 k] (.bool (decide (k ∈ T))) W := by
  show Calls Try.prog 43 #[.int .i64 k, .pointer (some ⟨g, 0, none⟩)] W _
  subst hT
  have HC := Lib.hid fun W h => contains.contains_any a c k W T hm h
  have HI := Lib.hid hi
  clear hi
  go_enter Try.func43, Try.ntmps43
  go_wp2_with (go_at_call 44; refine (HC.out _ ?hh).mono ?_; (case hh => exact HI.out); rintro e w1 ⟨rfl, rfl⟩)
  go_ret
  exact ⟨rfl, 0, rfl⟩
/-- behind the deletion: what is left, in the same block -/
def DelPost (base : Nat) (fs : List Int) (w : World) (e : Ending) (w' : World) : Prop :=
  ∃ v, e = .returned v ∧ w'.ownsRow base 3 1 v fs.length (fs.map (Value.int .i64)) ∧ ∀ W : World, W.heap.size ≤ base → Below W.heap.size W w → Below W.heap.size W w'
def ToldAt (base : Nat) (w : World) (a : Option Addr) (T : List Int) : Prop :=
  T = [] ∨ ∃ b off, a = some ⟨b, off, none⟩ ∧ b < base ∧ b < w.heap.size ∧ ∀ i x, T[i]? = some x → w.cell? ⟨b, off + i, none⟩ = some (.int .i64 x)
theorem grow_none (w : World) : w = Sort.grow w #[] := by simp [Sort.grow]
set_option maxHeartbeats 1000000 in
set_option maxRecDepth 100000 in
theorem del_nil (f : Value) (w : World) : Calls Try.prog 42 #[.slice none 0 0, f] w (Ret (.slice none 0 0) w) := by
  go_enter Try.func42, Try.ntmps42
  go_wp2
  go_loopw [8] (fun v wr => v = .int .i64 0 ∧ ∃ l d, wr = w.later l d) (fun _ _ => 0)
  case atStart => exact ⟨rfl, #[], _, later_zero _⟩
  case round =>
    obtain ⟨rfl, l, d, rfl⟩ := hrel
    go_wp2
    go_ret
    exact ⟨rfl, (by repeat (first | exact Below.refl _ _ | apply bs_later | apply bs_alloc | apply bs_drew | apply bs_drewN))⟩
theorem del_own {T : List Int} {a : Option Addr} {m c : Nat} (hT : T.length = m) (hm : m ≤ maxLen) {zs : List Int} {base n g : Nat} {v : Value} {w : World} (hn : n ≤ 8) (h : w.ownsRow base 3 1 v n (zs.map (Value.int .i64))) (hg : g < base) (hgw : g < w.heap.size) (hc : w.cell? ⟨g, 0, none⟩ = some (.slice a m c)) (hi : ToldAt base w a T) :
    Calls Try.prog 42 #[v, .func (.func 43) #[] #[.pointer (some ⟨g, 0, none⟩)]] w (DelPost base (zs.filter fun x => !decide (x ∈ T)) w) := by
  have hl : zs.length = n := by have := h.1; simpa using this
  rcases h.2 with ⟨rfl, h0⟩ | ⟨b, cap, cur, rfl, hb, hgg, h1, h2, h3, h4⟩
  · subst h0
    obtain rfl : zs = [] := by simpa using hl
    refine (del_nil _ w).mono ?_
    rintro e w' ⟨rfl, hb⟩
    obtain ⟨l, d, rfl⟩ := later_of hb
    exact ⟨_, rfl, World.ownsRow_nil _ _ _ _, fun W hW hbW => bs_later hbW l d⟩
  · subst hl
    have eg : ∀ args w, (callFunc 43 args).run Try.prog w = .ok (.enter 43 args) w := enters_of Try.func43 (by kernel_rfl) rfl
    have hbs : b < w.heap.size := (Array.getElem?_eq_some_iff.1 hgg).1
    have hP : PredAt Try.prog 43 #[.pointer (some ⟨g, 0, none⟩)] (Value.int .i64) (fun x => decide (x ∈ T)) w := fun W x hbw =>
      del1_gives T a m c hT hm x g W ((hbw.cell (p := ⟨g, 0, none⟩) hgw).trans hc) (by
        rcases hi with hi | ⟨b2, off, h5, h6, h7, h8⟩
        · exact .inl hi
        · exact .inr ⟨b2, off, h5, fun i y hy => (hbw.cell (p := ⟨b2, off + i, none⟩) h7).trans (h8 i y hy)⟩)
    have hsw : ∀ (q : Nat) (os : Array Obj) (dk : Array Int) (p : Addr) (u : Value), p.block < w.heap.size → p.block ≠ b → w.cell? p = some u → (sortWorld (Value.int .i64) w b 0 q dk os).cell? p = some u := fun q os dk p u hp hne hu => by
      unfold sortWorld
      rw [Sort.cell?_grow _ _ _ (by show p.block < (Sort.putRow _ _ _ _ _).heap.size; rw [Sort.size_putRow]; exact hp), Sort.cell?_putRow_other _ _ b 0 _ _ (Or.inl hne)]
      exact hu
    have hO : PredOver Try.prog 43 #[.pointer (some ⟨g, 0, none⟩)] (Value.int .i64) (fun x => decide (x ∈ T)) b 0 zs.toArray.size w := fun q os dk x _ =>
      del1_gives T a m c hT hm x g _ (hsw q os dk ⟨g, 0, none⟩ _ hgw (by show g ≠ b; omega) hc) (by
        rcases hi with hi | ⟨b2, off, h5, h6, h7, h8⟩
        · exact .inl hi
        · exact .inr ⟨b2, off, h5, fun i y hy => hsw q os dk ⟨b2, off + i, none⟩ _ h7 (by show b2 ≠ b; omega) (h8 i y hy)⟩)
    have hcon := AnyE.slices_DeleteFunc Try.l10 (Value.int .i64) (fun _ => rfl) (fun x => decide (x ∈ T)) 43 #[.pointer (some ⟨g, 0, none⟩)] eg 0 Try.zeroValue3 b 0 cap zs.toArray w hP hO (holds_of_blockI hgg (by rw [← h4, Nat.mul_one])) (by simp; omega) (by simpa using h1)
    change Calls Try.prog 42 _ _ _ at hcon
    have e0 : zs.toArray.size = zs.length := by simp
    rw [e0] at hcon
    refine hcon.mono ?_
    rintro e w' ⟨rfl, q, rfl⟩
    have e1 : zs.toArray.toList = zs := rfl
    rw [e1]
    have hfl : (zs.filter fun x => !decide (x ∈ T)).length ≤ zs.length := List.length_filter_le _ _
    generalize (zs.filter fun x => !decide (x ∈ T)) = fs at hfl ⊢
    have hts : (fs ++ List.replicate (zs.length - fs.length) (0 : Int)).length = zs.length := by rw [List.length_append, List.length_replicate]; omega
    have hrow := ownsRow_sortedI (n := q) (os := #[]) hts hb hgg h1 h2 h3
    have hgr := grownBy_sortedI (w := w) (g := b) (n := q) (os := #[]) (fs ++ List.replicate (zs.length - fs.length) (0 : Int)).toArray
    rw [← grow_none] at hrow hgr
    refine ⟨_, rfl, ?_, fun W hW hbW => hbW.grown hgr hbW.size (fun k hk => by cases hk; omega)⟩
    rcases hrow.2 with ⟨hx, -⟩ | ⟨b', cap', cur', hv, k1, k2, k3, k4, k5, k6⟩
    · cases hx
    · injection hv with hv1 hv2 hv3
      subst hv3
      obtain rfl : b = b' := by injection hv1 with hv1; injection hv1
      refine ⟨by simp, .inr ⟨b, cap, cur', rfl, k1, k2, by omega, k4, k5, ?_⟩⟩
      have k7 : (cur'.toList.take zs.length).take fs.length = fs.map (Value.int .i64) := by
        rw [Nat.mul_one] at k6
        rw [k6, List.map_append]
        exact List.take_left' (by simp)
      rw [List.take_take, Nat.min_eq_left hfl] at k7
      rw [Nat.mul_one]
      exact k7
end Go.Proofs.Ytffhfpdmfegcpaa.slot
