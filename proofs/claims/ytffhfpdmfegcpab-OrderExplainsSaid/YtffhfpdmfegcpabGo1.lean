/- The walk of the reference's own search: it answers as the law of lists, and leaves the places as they were. -/
import Derived.Test.YtffhfpdmfegcpabFrom
import Derived.Test.YtffhfpdmfegcpabExplainLaw
import Derived.Test.YtffhfpdmfegcpabRefAtomic
import Derived.Laws.AppendOwnNone
namespace Go.Proofs.Ytffhfpdmfegcpab.find
open Go.ChangeShapes Go.WideShapes Go.ChangeAt Go.RowKit
open Go.Joins (ownsRow_le)
open Go.Proofs.Ytffhfpdmfegcpab.base Go.Proofs.Ytffhfpdmfegcpab.flat Go.Proofs.Ytffhfpdmfegcpab.same Go.Proofs.Ytffhfpdmfegcpab.table Go.Proofs.Ytffhfpdmfegcpab.bank Go.Proofs.Ytffhfpdmfegcpab.atomic Go.Proofs.Ytffhfpdmfegcpab.memEq Go.Proofs.Ytffhfpdmfegcpab.play Go.Proofs.Ytffhfpdmfegcpab.told Go.Proofs.Ytffhfpdmfegcpab.turn Go.Proofs.Ytffhfpdmfegcpab.refAtomic
set_option linter.unusedVariables false
set_option linter.unusedSimpArgs false

def GoPost (s : Option (List Nat)) (w : World) (e : Ending) (w' : World) : Prop :=
  ∃ v, e = .returned (.tuple #[v, .bool s.isSome]) ∧ w'.ownsRow w.heap.size 3 1 v (iL s).length ((iL s).map (Value.int .i64)) ∧ Below w.heap.size w w'
theorem go_nil {s : Option (List Nat)} {w w' : World} (hs : s = none) (hb : Below w.heap.size w w') : GoPost s w (.returned (.tuple #[.slice none 0 0, .bool false])) w' := by
  subst hs
  exact ⟨_, rfl, World.ownsRow_nil _ _ _ _, hb⟩
/-- what the search reads, whatever the places are: the logs, the places' slice, the function -/
def GCtx (logs : List (List T5)) (la : Option Addr) (lc lb ab gb g n : Nat) (w : World) : Prop := ∀ o,
  (w.turn g o).cell? ⟨lb, 0, none⟩ = some (.slice la logs.length lc) ∧ (w.turn g o).cell? ⟨ab, 0, none⟩ = some (.slice (some ⟨g, 0, none⟩) n n)
    ∧ (w.turn g o).cell? ⟨gb, 0, none⟩ = some (.func (.func 83) #[] #[.pointer (some ⟨lb, 0, none⟩), .pointer (some ⟨ab, 0, none⟩), .pointer (some ⟨gb, 0, none⟩)]) ∧ ListsAt ToldsAt (w.turn g o) la logs
theorem below_turn2 {w w' : World} {g : Nat} (hg : inB w g) (hb : Below w.heap.size w w') (o : Obj) : Below (w.turn g o).heap.size (w.turn g o) (w'.turn g o) :=
  ⟨hb.os, hb.tape, hb.output, by rw [size_turn, size_turn]; exact hb.size, fun k hk => by
    rw [size_turn] at hk
    by_cases e : k = g
    · subst e
      rw [heap_turn hg, heap_turn (show inB w' k from Nat.lt_of_lt_of_le hg hb.size)]
    · rw [heap_turn_ne o e, heap_turn_ne o e]; exact hb.block k hk⟩
theorem GCtx.below {logs : List (List T5)} {la : Option Addr} {lc lb ab gb g n : Nat} {w w' : World} (h : GCtx logs la lc lb ab gb g n w) (hg : inB w g) (hb : Below w.heap.size w w') : GCtx logs la lc lb ab gb g n w' := fun o => by
  obtain ⟨h1, h2, h3, h4⟩ := h o
  have hb' := below_turn2 hg hb o
  exact ⟨by rw [hb'.cell (p := ⟨lb, 0, none⟩) (table.lt_of_cell h1)]; exact h1, by rw [hb'.cell (p := ⟨ab, 0, none⟩) (table.lt_of_cell h2)]; exact h2, by rw [hb'.cell (p := ⟨gb, 0, none⟩) (table.lt_of_cell h3)]; exact h3,
    ListsAt.below (Q := ToldsAt) (fun hb h => ToldsAt.below h hb) h4 hb'⟩
theorem GCtx.turn {logs : List (List T5)} {la : Option Addr} {lc lb ab gb g n : Nat} {w : World} (h : GCtx logs la lc lb ab gb g n w) (o : Obj) : GCtx logs la lc lb ab gb g n (w.turn g o) := fun o' => by
  rw [turn_turn]; exact h o'
theorem GCtx.here {logs : List (List T5)} {la : Option Addr} {lc lb ab gb g n : Nat} {w : World} (h : GCtx logs la lc lb ab gb g n w) {o : Obj} (hg : w.heap[g]? = some o) :
    w.cell? ⟨lb, 0, none⟩ = some (.slice la logs.length lc) ∧ w.cell? ⟨ab, 0, none⟩ = some (.slice (some ⟨g, 0, none⟩) n n)
    ∧ w.cell? ⟨gb, 0, none⟩ = some (.func (.func 83) #[] #[.pointer (some ⟨lb, 0, none⟩), .pointer (some ⟨ab, 0, none⟩), .pointer (some ⟨gb, 0, none⟩)]) ∧ ListsAt ToldsAt w la logs := by
  have := h o
  rwa [turn_self hg] at this
/-- the places lie in block g -/
def AtO (a : List Nat) : Obj := .cells (atL a).toArray 3 (0, 0)
theorem atO_cell {w : World} {g : Nat} {a : List Nat} (h : w.heap[g]? = some (AtO a)) {k i : Nat} (hi : a[k]? = some i) : w.cell? ⟨g, k, none⟩ = some (.int .i64 (i : Int)) := by
  simp [World.cell?, h, AtO, atL, hi]
theorem atO_free {w : World} {g : Nat} {a : List Nat} (h : w.heap[g]? = some (AtO a)) (k : Nat) : w.frozen? ⟨g, k, none⟩ = false := by
  simp [World.frozen?, h, AtO]
theorem atO_set {w : World} {g : Nat} {a : List Nat} (h : w.heap[g]? = some (AtO a)) {k : Nat} (hk : k < a.length) (i : Nat) : w.setCell ⟨g, k, none⟩ (.int .i64 (i : Int)) = w.turn g (AtO (a.set k i)) := by
  have hlt := (Array.getElem?_eq_some_iff.1 h).1
  simp only [World.setCell, World.turn]
  congr 1
  apply Array.ext_getElem?
  intro j
  rw [Array.getElem?_modify, Array.getElem?_setIfInBounds]
  by_cases hj : g = j
  · subst hj
    rw [if_pos rfl, if_pos rfl, if_pos hlt, h]
    simp only [Option.map_some, AtO, atL, List.map_set]
    congr 1
    simp
  · rw [if_neg hj, if_neg hj]
theorem at_step {w : World} {g : Nat} {a : List Nat} (h : w.heap[g]? = some (AtO a)) {k i : Nat} (hi : a[k]? = some i) :
    ∃ W1, w.setCell ⟨g, k, none⟩ (.int .i64 ((i : Int) + 1)) = W1 ∧ W1.setCell ⟨g, k, none⟩ (.int .i64 (i : Int)) = w ∧ W1 = w.turn g (AtO (bump a k)) ∧ W1.heap.size = w.heap.size ∧ W1.heap[g]? = some (AtO (bump a k)) := by
  have hlt := (Array.getElem?_eq_some_iff.1 h).1
  have hk := (List.getElem?_eq_some_iff.1 hi).1
  have e1 : w.setCell ⟨g, k, none⟩ (.int .i64 ((i : Int) + 1)) = w.turn g (AtO (bump a k)) := by
    rw [bump_eq hi]; exact atO_set h hk (i + 1)
  have h2 : (w.turn g (AtO (bump a k))).heap[g]? = some (AtO (bump a k)) := heap_turn hlt _
  refine ⟨_, e1, ?_, rfl, size_turn _, h2⟩
  rw [atO_set h2 (by rw [len_bump]; exact hk) i, turn_turn, bump_eq hi, List.set_set]
  have : a.set k i = a := by
    apply List.ext_getElem?
    intro j
    rw [List.getElem?_set]
    by_cases hj : k = j
    · subst hj; rw [if_pos rfl, if_pos hk, hi]
    · rw [if_neg hj]
  rw [this]
  exact turn_self h
/-- append of one row of the call's own onto another -/
theorem append_two {P : Program} {w : World} {ops : Array Oper} {rest : List Oper} {o : Oper} {a : Act} {Q : Exit → Act → World → Prop} (hgd : o.guard = none) (s x : Operand) (t : TypeId)
    (ho : o.op = .call { callee := .builtin .append, args := #[s, x], argTypes := #[t, t] })
    (base : Nat) (e : TypeId) (i : TypeInfo) (ht : P.underlying t = some (.slice e)) (hi : P.info? e = some i) (hz : i.zero = some (.int .i64 0)) (hsize : i.size = 1) (hby : i.bytes = 8)
    (v : Value) (n : Nat) (xs : List Value) (hs : a.eval s = v) (hown : w.ownsRow base e 1 v n xs)
    (u : Value) (m b2 : Nat) (ys : List Int) (hx : a.eval x = u) (hu : w.ownsRow b2 e 1 u m (ys.map (Value.int .i64))) (hn : n + m ≤ 2000) (hbase : base ≤ w.heap.size)
    (h : ∀ v' w', w'.ownsRow base e 1 v' (n + m) (xs ++ ys.map (Value.int .i64)) → w.grownBy w' v.ownBlock → wpList P ops Q rest (a.put o.dst v') w') : wpList P ops Q (o :: rest) a w := by
  rcases hu.2 with ⟨rfl, h0⟩ | ⟨g, cap, cur, rfl, hb, hgg, h1, h2, h3, h4⟩
  · subst h0
    have hys : ys = [] := by have := hu.1; simpa using this
    subst hys
    refine wpList_append_own_none hgd s x t ho base e i 1 ht hi v n xs hs hown hx ?_
    exact h v w (by simpa using hown) (World.grownBy.refl w _)
  · have hyl : ys.length = m := by have := hu.1; simpa using this
    refine wpList_append_own w hgd s x t ho base e i (.int .i64 0) 1 8 ht hi hz hsize hby rfl (by decide) v n xs hs hown ⟨g, 0, none⟩ m cap (ys.map (Value.int .i64)) hx (by rw [List.length_map, hyl, Nat.mul_one]) ?_ ?_ (by unfold maxLen; omega) (by omega) hbase (fun v' w' h1 h2 _ => h v' w' h1 h2)
    · intro j y hy
      have hj : j < m := by rw [← hyl]; have := (List.getElem?_eq_some_iff.1 hy).1; simpa using this
      have h5 : (cur.toList.take (m * 1))[j]? = some y := by rw [h4]; exact hy
      rw [Nat.mul_one, List.getElem?_take, if_pos hj] at h5
      unfold Addr.add
      split
      · rename_i h0; subst h0; simp [World.cell?, hgg]; simpa using h5
      · simp [World.cell?, hgg]; simpa using h5
    · intro y hy
      obtain ⟨z, _, rfl⟩ := List.mem_map.1 hy
      rfl
/-- a literal of one number is a row of the call's own -/
theorem lit_own {w : World} {x : Value} {e : TypeId} {g : Nat} (hg : g = w.heap.size) : (w.alloc (.cells #[x] e)).ownsRow g e 1 (.slice (some ⟨g, 0, none⟩) 1 1) 1 [x] := by
  subst hg
  exact ⟨rfl, .inr ⟨_, 1, #[x], rfl, Nat.le_refl _, heap_alloc_new _ _, Nat.le_refl _, by decide, rfl, rfl⟩⟩
def RelG (logs : List (List T5)) (n : Nat) (a : List Nat) (m : List Int) (w0 : World) (i : Value) (wr : World) : Prop :=
  ∃ (k : Nat) (l : Array Obj) (d : Nat), k ≤ logs.length ∧ i = .int .i64 k ∧ wr = w0.later l d ∧ ∀ j, j < k → stepF logs n a m j = none

set_option maxHeartbeats 8000000 in
set_option maxRecDepth 100000 in
theorem go1_any (logs : List (List T5)) (h8 : logs.length ≤ 8) (hgood : ∀ l ∈ logs, l.length ≤ 12 ∧ ∀ x ∈ l, badOf x.d = 0 ∧ x.Ok) (la : Option Addr) (lc lb ab gb g : Nat) :
    ∀ (n : Nat) (a : List Nat) (m : List Int) (w : World), m.length = 64 → a.length = logs.length → Fit logs a → leftL logs a = n → n ≤ 1000 → w.heap[g]? = some (AtO a) → GCtx logs la lc lb ab gb g logs.length w →
      Calls Try.prog 83 #[.agg (memA m), .int .i64 (n : Int), .pointer (some ⟨lb, 0, none⟩), .pointer (some ⟨ab, 0, none⟩), .pointer (some ⟨gb, 0, none⟩)] w (GoPost (search logs n a m) w) := by
  intro n
  induction n with
  | zero =>
    intro a m w _ _ _ _ _ _ _
    -- Z begin
    have hz : (((0 : Nat) : Int) == 0) = true := rfl
    go_enter Try.func83, Try.ntmps83
    go_wp2
    go_ret2
    exact ⟨_, rfl, World.ownsRow_nil _ _ _ _, (by repeat (first | exact Below.refl _ _ | apply bs_later | apply bs_alloc | apply bs_drew | apply bs_drewN))⟩
    -- Z end
  | succ n ih =>
    intro a m w hm hal hf hl hn1000 hb hc
    have HSM : Hid ((memA m).size = 64) := Lib.hid (by rw [size_memA, hm])
    have hn1 : (((n : Int) + 1) == 0) = false := by simp; omega
    have hn2 : ((n + 1 : Nat) : Int) = (n : Int) + 1 := rfl
    have hinw : inB w g := (Array.getElem?_eq_some_iff.1 hb).1
    obtain ⟨c0, c1, c2, c3⟩ := hc.here hb
    have hin0 : inB w lb := table.lt_of_cell c0
    have hin1 : inB w ab := table.lt_of_cell c1
    have hin2 : inB w gb := table.lt_of_cell c2
    have HM := Lib.hid hm
    have HAL := Lib.hid hal
    have HF := Lib.hid hf
    have HL := Lib.hid hl
    have HB := Lib.hid hb
    have HC := Lib.hid hc
    have HLL0 := Lib.hid c3
    have HG := Lib.hid hgood
    have HI := Lib.hid ih
    rw [hn2]
    clear hm hal hf hl hb hc hgood ih hn2 c3
    have h8I : (logs.length : Int) ≤ 8 := by omega
    go_enter Try.func83, Try.ntmps83
    go_wp2
    go_loopw [20] (RelG logs n a m (w.alloc (.cells (memA m) 26))) (fun i _ => logs.length - (intOf i).toNat)
    case atStart => exact ⟨0, #[], _, Nat.zero_le _, rfl, later_zero _, fun j hj => by omega⟩
    case round =>
      obtain ⟨k, l, d, hk, rfl, rfl, hno⟩ := hrel
      have HNO := Lib.hid hno
      clear hno
      by_cases hlt : k < logs.length
      · as_aux_lemma =>
        obtain ⟨lg, hlg⟩ := get_some hlt
        obtain ⟨i, hai, hil⟩ := HF.out k lg hlg
        have hg := HG.out lg (List.mem_of_getElem? hlg)
        obtain ⟨b, off, hla⟩ := ListsAt.form HLL0.out hlg
        subst hla
        obtain ⟨p, pc, e0, q1, q2, q3, q4⟩ := ListsAt.at HLL0.out hlg
        have hinb : inB w b := table.lt_of_cell e0
        have hk8 : k < 8 := by omega
        have hcx : w.cell? ⟨g, k, none⟩ = some (.int .i64 (i : Int)) := atO_cell HB.out hai
        have hfz : w.frozen? ⟨g, k, none⟩ = false := atO_free HB.out k
        have hl12 := hg.1
        have HKL : Hid (k + 1 ≤ logs.length) := Lib.hid hlt
        have hlI : (lg.length : Int) ≤ 12 := by omega
        have hkI : (k : Int) < logs.length := by omega
        by_cases hend : i = lg.length
        · have hee : ((i : Int) == (lg.length : Int)) = true := by simp; omega
          have HN : Hid (stepF logs n a m k = none) := Lib.hid (by unfold stepF; rw [stepK_end hlg hai (by omega)]; rfl)
          clear hend hg hlg hai hil
          go_wp2
          go_roundw
          case rel => exact ⟨k + 1, l, d, HKL.out, by go_num, rfl, next_none HNO.out HN.out⟩
          case measure => simp [intOf]; omega
        · have hee : ((i : Int) == (lg.length : Int)) = false := by simp; omega
          have hilt : i < lg.length := by omega
          have hiI : (i : Int) < lg.length := by omega
          have hi12 : (i : Int) ≤ 12 := by omega
          obtain ⟨x, hx⟩ := get_some hilt
          obtain ⟨b2, off2, hp⟩ := ToldsAt.form q4 hx
          subst hp
          obtain ⟨f0, f1, f2, f3, f4⟩ := ToldsAt.at q4 hx
          have hinx : inB w b2 := table.lt_of_cell f0
          obtain ⟨hbad, hxok⟩ := hg.2 x (List.mem_of_getElem? hx)
          have hr := right_pos hbad
          have PD := fun w => plain_ok m HM.out x.d.n x.d.k x.d.a x.d.v w hr.2.1 hr.2.2.1.1 hr.2.2.1.2
          have hzl : (plainM m x.d.k x.d.a x.d.v).length = 64 := by rw [plainM_len]; exact HM.out
          have HZL := Lib.hid hzl
          have HFF := Lib.hid (fit_bump HF.out hlg hai hilt)
          have HLL : Hid (leftL logs (bump a k) = n) := Lib.hid (by have := left_bump hlg hai hilt; rw [HL.out] at this; omega)
          have HST : Hid (plainV m x.d.k x.d.a = x.u → stepF logs n a m k = (search logs n (bump a k) (plainM m x.d.k x.d.a x.d.v)).map (k :: ·)) := Lib.hid fun h => by unfold stepF; rw [stepK_mk hlg hai hx h]; rfl
          have HSO : Hid (¬ plainV m x.d.k x.d.a = x.u → stepF logs n a m k = none) := Lib.hid fun h => by unfold stepF; rw [stepK_odd hlg hai hx h]; rfl
          have HSZ : Hid ((memA (plainM m x.d.k x.d.a x.d.v)).size = 64) := Lib.hid (by rw [size_memA, hzl])
          have HAI := Lib.hid hai
          obtain ⟨⟨xn, xk, xa, xv⟩, xu⟩ := x
          simp only at f0 f1 f2 f3 f4 PD hzl HZL HLL HST HSO HSZ
          generalize plainM m xk xa xv = zs at *
          generalize plainV m xk xa = z at *
          have HPL := Lib.hid PD
          clear PD hzl hbad hxok hx hg hlg hai hil q4 q3 hend hr
          by_cases hz : z = xu
          · have hz' : (z != xu) = false := by simpa using hz
            have HSTEP := Lib.hid (HST.out hz)
            clear hz HST HSO
            obtain ⟨s, hs⟩ : ∃ s, s = search logs n (bump a k) zs := ⟨_, rfl⟩
            have IH := fun w => HI.out (bump a k) zs w HZL.out (by rw [len_bump]; exact HAL.out)
            rw [← hs] at IH
            have HST : Hid (stepF logs n a m k = s.map (k :: ·)) := Lib.hid (by rw [hs]; exact HSTEP.out)
            have HSL : Hid ((iL s).length ≤ 1000) := Lib.hid (by
              rw [hs]
              cases hq : search logs n (bump a k) zs with
              | none => exact Nat.zero_le _
              | some ps =>
                have := ord_len (search_sound HFF.out HLL.out hq)
                rw [HLL.out] at this
                simp [iL]
                omega)
            obtain ⟨W1, hs1, hs2, hs3, hsz, hat⟩ := at_step HB.out HAI.out
            have hcW : GCtx (logs) (some ⟨b, off, none⟩) lc lb ab gb g logs.length W1 := by rw [hs3]; exact HC.out.turn _
            obtain ⟨r0, r1, r2, r3⟩ := hcW.here hat
            have hiW : inB W1 g := (Array.getElem?_eq_some_iff.1 hat).1
            have hi0 : inB W1 lb := table.lt_of_cell r0
            have hi1 : inB W1 ab := table.lt_of_cell r1
            have hi2 : inB W1 gb := table.lt_of_cell r2
            have hcy : W1.cell? ⟨g, k, none⟩ = some (.int .i64 ((i : Int) + 1)) := by
              have := atO_cell hat (k := k) (i := i + 1) (by rw [bump_eq HAI.out, List.getElem?_set_self (List.getElem?_eq_some_iff.1 HAI.out).1])
              exact this
            have hfy : W1.frozen? ⟨g, k, none⟩ = false := atO_free hat k
            have HIW := Lib.hid hiW
            have HAW := Lib.hid hat
            have HCW := Lib.hid hcW
            have HI2 : Hid (∀ w, Fit logs (bump a k) → leftL logs (bump a k) = n → w.heap[g]? = some (AtO (bump a k)) → GCtx logs (some ⟨b, off, none⟩) lc lb ab gb g logs.length w → Calls Try.prog 83 #[.agg (memA zs), .int .i64 (n : Int), .pointer (some ⟨lb, 0, none⟩), .pointer (some ⟨ab, 0, none⟩), .pointer (some ⟨gb, 0, none⟩)] w (GoPost s w)) := Lib.hid fun w h1 h2 h3 h4 => IH w h1 h2 (by omega) h3 h4
            clear IH HI HSTEP hs hs3 hat hcW r3
            cases s with
            | none =>
              -- N begin
              go_wp2_with (first
                | ((with_reducible refine at_wp ?_); refine wpList_load_r rfl 26 _ rfl _ rfl 64 _ Try.underlying26 rfl (by kernel_rfl) (by (simp [go_sem, HSM.out, HSZ.out, hsz]; done)) ?_; intro C hC; simp [go_sem, hsz] at hC; subst hC)
                | ((with_reducible refine at_wp ?_); refine wpList_store_r rfl 26 _ _ rfl _ rfl _ rfl 64 (by kernel_rfl) (by (simp [go_sem, HSM.out, HSZ.out, hsz]; done)) (by (simp [HSZ.out]; done)) (memA_one _) ?_; intro W' hW'; simp [go_sem, hsz] at hW'; subst hW')
                | (go_at_call 30; refine (HPL.out _).mono ?_; rintro e w1 ⟨rfl, hb1⟩; obtain ⟨l1, d1, rfl⟩ := later_of hb1; clear hb1)
                | (go_at_call 83; refine (HI2.out _ HFF.out HLL.out (map_below HAW.out (by repeat (first | exact Below.refl _ _ | apply bs_later | apply bs_alloc | apply bs_drew | apply bs_drewN))) (HCW.out.below HIW.out (by repeat (first | exact Below.refl _ _ | apply bs_later | apply bs_alloc | apply bs_drew | apply bs_drewN)))).mono ?_; rintro e w1 ⟨v, rfl, hown, hb1⟩; obtain ⟨l2, d2, rfl⟩ := later_of hb1; simp only [Option.isSome_none]; clear hb1 hown))
              simp only [later_alloc, later_later]
              go_roundw
              case rel => exact ⟨k + 1, _, _, HKL.out, by go_num, rfl, next_none HNO.out HST.out⟩
              case measure => simp [intOf]; omega
              -- N end
            | some ps =>
              -- S begin
              go_upto_region 14 with (first
                | ((with_reducible refine at_wp ?_); refine wpList_load_r rfl 26 _ rfl _ rfl 64 _ Try.underlying26 rfl (by kernel_rfl) (by (simp [go_sem, HSM.out, HSZ.out, hsz]; done)) ?_; intro C hC; simp [go_sem, hsz] at hC; subst hC)
                | ((with_reducible refine at_wp ?_); refine wpList_store_r rfl 26 _ _ rfl _ rfl _ rfl 64 (by kernel_rfl) (by (simp [go_sem, HSM.out, HSZ.out, hsz]; done)) (by (simp [HSZ.out]; done)) (memA_one _) ?_; intro W' hW'; simp [go_sem, hsz] at hW'; subst hW')
                | (go_at_call 30; refine (HPL.out _).mono ?_; rintro e w1 ⟨rfl, hb1⟩; obtain ⟨l1, d1, rfl⟩ := later_of hb1; clear hb1)
                | (go_at_call 83; refine (HI2.out _ HFF.out HLL.out (map_below HAW.out (by repeat (first | exact Below.refl _ _ | apply bs_later | apply bs_alloc | apply bs_drew | apply bs_drewN))) (HCW.out.below HIW.out (by repeat (first | exact Below.refl _ _ | apply bs_later | apply bs_alloc | apply bs_drew | apply bs_drewN)))).mono ?_; rintro e w1 ⟨v, rfl, hown, hb1⟩; obtain ⟨l2, d2, rfl⟩ := later_of hb1; simp only [Option.isSome_some]; have HO := Lib.hid hown; clear hb1 hown))
              obtain ⟨i0, hi, hz0, hz1, hz2⟩ := info_parts info_intF
              refine wp_region_lit ?_
              go_wp2_with (at_builtin; refine append_two rfl _ _ 35 rfl _ 3 i0 Try.underlying35 hi hz0 hz1 hz2 (.slice (some ⟨_, 0, none⟩) 1 1) 1 [.int .i64 (k : Int)] rfl (lit_own (by first | (simp; done) | (simp; omega))) v (iL (some ps)).length _ (iL (some ps)) rfl ((own_swap HO.out (Nat.le_refl _) (by simp [hsz])).alloc _) ?c3 ?c5 ?_; (case c3 => have := HSL.out; omega); (case c5 => first | (simp; done) | (simp; omega)); intro v' w1 hown' hgrow; have hb2 := below_grown (W0 := w) (by repeat (first | exact Below.refl _ _ | apply bs_later | apply bs_alloc | apply bs_drew | apply bs_drewN)) hgrow (fun g' hg' => by simp [Value.ownBlock] at hg'; omega); obtain ⟨l6, d6, rfl⟩ := later_of hb2; have HO2 := Lib.hid hown'; clear hown' hgrow hb2)
              go_ret2
              have hsr : search logs (n + 1) a m = some (k :: ps) := by
                rw [search_succ]
                exact firstK_at (fun j _ hj => HNO.out j hj) (Nat.zero_le _) (by have := HKL.out; omega) HST.out
              rw [hsr]
              refine ⟨v', rfl, ?_, (by repeat (first | exact Below.refl _ _ | apply bs_later | apply bs_alloc | apply bs_drew | apply bs_drewN))⟩
              have h6 := HO2.out
              have e1 : (iL (some (k :: ps))).map (Value.int .i64) = [.int .i64 (k : Int)] ++ (iL (some ps)).map (Value.int .i64) := by simp [iL]
              have e2 : (iL (some (k :: ps))).length = 1 + (iL (some ps)).length := by simp [iL]; omega
              rw [e1, e2]
              exact ownsRow_le h6 (by first | omega | (simp; done) | (simp; omega))
              -- S end
          · have hz' : (z != xu) = true := by simpa using hz
            have HN := Lib.hid (HSO.out hz)
            clear hz HST HSO HI
            -- O begin
            go_wp2_with (first
              | ((with_reducible refine at_wp ?_); refine wpList_load_r rfl 26 _ rfl _ rfl 64 _ Try.underlying26 rfl (by kernel_rfl) (by (simp [go_sem, HSM.out, HSZ.out]; done)) ?_; intro C hC; simp [go_sem] at hC; subst hC)
              | ((with_reducible refine at_wp ?_); refine wpList_store_r rfl 26 _ _ rfl _ rfl _ rfl 64 (by kernel_rfl) (by (simp [go_sem, HSM.out, HSZ.out]; done)) (by (simp [HSZ.out]; done)) (memA_one _) ?_; intro W' hW'; simp [go_sem] at hW'; subst hW')
              | (go_at_call 30; refine (HPL.out _).mono ?_; rintro e w1 ⟨rfl, hb1⟩; obtain ⟨l1, d1, rfl⟩ := later_of hb1; clear hb1))
            simp only [later_alloc, later_later]
            go_roundw
            case rel => exact ⟨k + 1, _, _, HKL.out, by go_num, rfl, next_none HNO.out HN.out⟩
            case measure => simp [intOf]; omega
            -- O end
      · obtain rfl : k = logs.length := by omega
        have HNS : Hid (search logs (n + 1) a m = none) := Lib.hid (by rw [search_succ]; exact firstK_no fun j _ hj => HNO.out j (by omega))
        clear HI HNO
        go_wp2
        go_ret2
        exact go_nil HNS.out (by repeat (first | exact Below.refl _ _ | apply bs_later | apply bs_alloc | apply bs_drew | apply bs_drewN))
end Go.Proofs.Ytffhfpdmfegcpab.find
