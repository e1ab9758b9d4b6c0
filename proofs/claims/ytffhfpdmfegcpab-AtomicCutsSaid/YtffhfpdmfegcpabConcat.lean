/- The contracts of slices.Grow and slices.Concat at slices of uint64. -/
import Derived.Test.YtffhfpdmfegcpabPlayOk
import Derived.Test.YtffhfpdmfegcpabTable2
import Derived.Lib.AppendZerosOnto
import Derived.Laws.AppendOwnNone
namespace Go.Proofs.Ytffhfpdmfegcpab.concat
open Go.ChangeShapes Go.WideShapes Go.ChangeAt Go.RowKit
open Go.Joins (ownsRow_le)
open Go.Proofs.Ytffhfpdmfegcpab.base Go.Proofs.Ytffhfpdmfegcpab.flat Go.Proofs.Ytffhfpdmfegcpab.bankSame Go.Proofs.Ytffhfpdmfegcpab.play
set_option linter.unusedVariables false
set_option linter.unusedSimpArgs false

/-- a slice of uint64 of the call's own comes back -/
def RetU (xs : List Int) (w : World) (e : Ending) (w' : World) : Prop :=
  ∃ v, e = .returned v ∧ w'.ownsRow w.heap.size 22 1 v xs.length (xs.map (Value.int .u64)) ∧ Below w.heap.size w w'

theorem own_cut {w : World} {base g n cap size : Nat} {e : TypeId} {xs : List Value} (h : w.ownsRow base e size (.slice (some ⟨g, 0, none⟩) n cap) n xs) : w.ownsRow base e size (.slice (some ⟨g, 0, none⟩) 0 cap) 0 [] := by
  refine ⟨by simp, .inr ?_⟩
  rcases h.2 with ⟨h1, _⟩ | ⟨g', cap', cur, h1, h2, h3, h4, h5, h6, h7⟩
  · cases h1
  · injection h1 with h8 h9 h10
    injection h8 with h8
    injection h8 with h8
    subst h8; subst h10
    exact ⟨g, cap, cur, rfl, h2, h3, Nat.zero_le _, h5, h6, by simp⟩

set_option maxHeartbeats 2000000 in
set_option maxRecDepth 100000 in
theorem grow_any (n : Nat) (hn : n ≤ 400) (w : World) :
    Calls Try.prog 80 #[.slice none 0 0, .int .i64 n] w (RetU [] w) := by
  obtain ⟨i0, hi, hz0, hz1, hz2⟩ := info_parts info_u64
  by_cases h0 : n = 0
  · subst h0
    go_enter Try.func80, Try.ntmps80
    go_wp2
    go_ret
    exact ⟨_, rfl, World.ownsRow_nil _ _ _ _, by repeat (first | exact Below.refl _ _ | apply bs_later | apply bs_alloc | apply bs_drew | apply bs_drewN)⟩
  · have h1 : (0 : Int) < n := by omega
    have hold : (Builtin.firstCells i0.size 0 (.slice none 0 0)).run Try.prog w.drew = .ok ([] : List Value).toArray w.drew := run_firstCells_none w.drew i0.size 0 0 0
    have hrz : ∀ ty, (Builtin.append_ #[63, 3] ty #[.slice none 0 0, .int .i64 n]).run Try.prog w =
        .ok (.slice (some ⟨w.heap.size, 0, none⟩) n (grownCap w n 0 22)) (w.drew.alloc (.cells (([] : List Value).toArray ++ Builtin.zeroCells (Value.int .u64 0).cells n ++ Builtin.zeroCells (Value.int .u64 0).cells (grownCap w n 0 22 - n)) 22)) := fun ty => by
      have h := Lib.run_append_grow_zeros w 63 3 ty 22 i0 (.int .u64 0) .i64 .i64 Try.underlying63 Try.underlying3 hi hz0 none 0 0 [] hold n (by omega) (by rw [hz1]; decide) (by omega) (by omega) (by rw [hz2]; omega)
        (by rw [hz2]; exact growslice_fits (by omega) (by omega))
      rw [Nat.zero_add] at h
      exact h
    have hG0 : n ≤ grownCap w n 0 22 := grownCap_ge w _ _ _
    have hG1 : grownCap w n 0 22 ≤ maxLen := grownCap_le_maxLen w n 0 22 (by unfold maxLen; omega)
    have hsz : (([] : List Value).toArray ++ Builtin.zeroCells (Value.int .u64 0).cells n ++ Builtin.zeroCells (Value.int .u64 0).cells (grownCap w n 0 22 - n)).size = grownCap w n 0 22 := by
      have e1 : (Value.int .u64 0).cells.size = 1 := rfl
      rw [Array.size_append, Array.size_append, size_zeroCells, size_zeroCells, e1]
      simp
      omega
    generalize grownCap w n 0 22 = G at *
    generalize ([] : List Value).toArray ++ Builtin.zeroCells (Value.int .u64 0).cells n ++ Builtin.zeroCells (Value.int .u64 0).cells (G - n) = cur at *
    have HR := Lib.hid hrz
    have HG := Lib.hid hG1
    clear hrz hold hG1
    go_enter Try.func80, Try.ntmps80
    go_wp2_with (at_builtin; refine Lib.wpList_append_run _ rfl _ _ _ _ rfl _ _ rfl rfl _ _ (HR.out _) ?_)
    go_ret
    refine ⟨_, rfl, ⟨by simp, .inr ⟨w.heap.size, G, cur, rfl, Nat.le_refl _, heap_alloc_new _ _, Nat.zero_le _, HG.out, by omega, by simp⟩⟩, ?_⟩
    repeat (first | exact Below.refl _ _ | apply bs_later | apply bs_alloc | apply bs_drew | apply bs_drewN)

/-- append onto a row of the call's own, whatever the source -/
theorem append_src {P : Program} {w : World} {ops : Array Oper} {rest : List Oper} {o : Oper} {a : Act} {Q : Exit → Act → World → Prop} (hgd : o.guard = none) (s x : Operand) (t : TypeId)
    (ho : o.op = .call { callee := .builtin .append, args := #[s, x], argTypes := #[t, t] })
    (base : Nat) (e : TypeId) (i : TypeInfo) (ht : P.underlying t = some (.slice e)) (hi : P.info? e = some i) (hz : i.zero = some (.int .u64 0)) (hsize : i.size = 1) (hby : i.bytes = 8)
    (v : Value) (n : Nat) (xs : List Value) (hs : a.eval s = v) (hown : w.ownsRow base e 1 v n xs)
    (p : Option Addr) (m c : Nat) (ys : List Int) (hx : a.eval x = .slice p m c) (hl : ys.length = m) (hnil : p = none → m = 0 ∧ c = 0) (hI : IntsAt .u64 w p ys)
    (hn : n + m ≤ 400) (hbase : base ≤ w.heap.size)
    (h : ∀ v' w', w'.ownsRow base e 1 v' (n + m) (xs ++ ys.map (Value.int .u64)) → w.grownBy w' v.ownBlock → wpList P ops Q rest (a.put o.dst v') w') : wpList P ops Q (o :: rest) a w := by
  cases p with
  | none =>
    obtain ⟨rfl, rfl⟩ := hnil rfl
    obtain rfl : ys = [] := List.length_eq_zero_iff.1 hl
    refine wpList_append_own_none hgd s x t ho base e i 1 ht hi v n xs hs hown hx ?_
    have := h v w (by simpa using hown) (World.grownBy.refl w _)
    exact this
  | some ad =>
    refine wpList_append_own w hgd s x t ho base e i (.int .u64 0) 1 8 ht hi hz hsize hby rfl (by decide) v n xs hs hown ad m c (ys.map (Value.int .u64)) hx (by rw [List.length_map, hl, Nat.mul_one]) ?_ ?_ (by unfold maxLen; omega) (by omega) hbase (fun v' w' h1 h2 _ => h v' w' h1 h2)
    · intro j u hu
      rcases hI with rfl | ⟨b, off, h1, h2⟩
      · simp at hu
      · injection h1 with h1
        subst h1
        rw [List.getElem?_map] at hu
        cases hy : ys[j]? with
        | none => rw [hy] at hu; cases hu
        | some y =>
          rw [hy] at hu
          obtain rfl := Option.some.inj hu
          have := h2 j y hy
          unfold Addr.add
          split
          · rename_i hj; subst hj; exact this
          · exact this
    · intro u hu
      obtain ⟨y, _, rfl⟩ := List.mem_map.1 hu
      rfl

set_option maxHeartbeats 2000000 in
set_option maxRecDepth 100000 in
theorem concat_two (b k : Nat) (p1 p2 : Option Addr) (c1 c2 : Nat) (xs ys : List Int) (w : World) (hxl : xs.length ≤ 200) (hyl : ys.length ≤ 200) (hc0 : w.cell? ⟨b, 0, none⟩ = some (.slice p1 xs.length c1)) (hc1 : w.cell? ⟨b, 1, none⟩ = some (.slice p2 ys.length c2))
    (hn1 : p1 = none → xs.length = 0 ∧ c1 = 0) (hn2 : p2 = none → ys.length = 0 ∧ c2 = 0) (hi1 : IntsAt .u64 w p1 xs) (hi2 : IntsAt .u64 w p2 ys) :
    Calls Try.prog 55 #[.slice (some ⟨b, 0, none⟩) 2 k] w (RetU (xs ++ ys) w) := by
  obtain ⟨i0, hi, hz0, hz1, hz2⟩ := info_parts info_u64
  have hin : inB w b := table.lt_of_cell hc0
  have HGR : Hid (∀ w, Calls Try.prog 80 #[.slice none 0 0, .int .i64 ((xs.length : Int) + (ys.length : Int))] w (RetU [] w)) := Lib.hid fun w => grow_any (xs.length + ys.length) (by omega) w
  have HI1 := Lib.hid hi1
  have HI2 := Lib.hid hi2
  have HN1 := Lib.hid hn1
  have HN2 := Lib.hid hn2
  clear hi1 hi2 hn1 hn2
  go_enter Try.func55, Try.ntmps55
  go_wp2
  refine wp_loop_rounds 3 ?_
  repeat any_goals (rw [rounds_succ]; go_wp2_with (first
    | (go_at_call 80; refine (HGR.out _).mono ?_; rintro e w1 ⟨gv, rfl, hown, hb1⟩; obtain ⟨l1, d1, rfl⟩ := later_of hb1; have HOa := Lib.hid hown; clear hb1 hown)))
  refine wp_loop_rounds 3 ?_
  rw [rounds_succ]
  go_wp2_with (at_builtin; refine append_src rfl _ _ 63 rfl w.heap.size 22 i0 Try.underlying63 hi hz0 hz1 hz2 gv 0 [] rfl HOa.out p1 xs.length c1 xs rfl rfl HN1.out ?s1 ?s2 ?s3 ?_; (case s1 => exact HI1.out.below (bs_later (Below.refl _ _) _ _)); (case s2 => omega); (case s3 => simp); intro v1 w1 ho1 hg1; have hb1 := below_grown (W0 := w) (bs_later (Below.refl _ _) _ _) hg1 (fun g hg => (HOa.out.lt g hg).1); obtain ⟨l2, d2, rfl⟩ := later_of hb1; have HOb := Lib.hid ho1; clear hb1 ho1 hg1)
  rw [rounds_succ]
  go_wp2_with (at_builtin; refine append_src rfl _ _ 63 rfl w.heap.size 22 i0 Try.underlying63 hi hz0 hz1 hz2 v1 _ _ rfl HOb.out p2 ys.length c2 ys rfl rfl HN2.out ?r1 ?r2 ?r3 ?_; (case r1 => exact HI2.out.below (bs_later (Below.refl _ _) _ _)); (case r2 => omega); (case r3 => simp); intro v2 w2 ho1 hg1; have hb1 := below_grown (W0 := w) (bs_later (Below.refl _ _) _ _) hg1 (fun g hg => (HOb.out.lt g hg).1); obtain ⟨l3, d3, rfl⟩ := later_of hb1; have HOc := Lib.hid ho1; clear hb1 ho1 hg1)
  rw [rounds_succ]
  go_wp2
  go_ret
  refine ⟨_, rfl, ?_, by repeat (first | exact Below.refl _ _ | apply bs_later | apply bs_alloc | apply bs_drew | apply bs_drewN)⟩
  have h := HOc.out
  rw [List.length_append, List.map_append]
  simpa using h
end Go.Proofs.Ytffhfpdmfegcpab.concat
