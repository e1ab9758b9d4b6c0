/- The contract of order.Keeps. -/
import Derived.Test.YtffhfpdmfegcpabLegal
namespace Go.Proofs.Ytffhfpdmfegcpab.told
open Go.ChangeShapes Go.WideShapes Go.ChangeAt Go.RowKit
open Go.Proofs.Ytffhfpdmfegcpab.base Go.Proofs.Ytffhfpdmfegcpab.flat Go.Proofs.Ytffhfpdmfegcpab.same Go.Proofs.Ytffhfpdmfegcpab.addr Go.Proofs.Ytffhfpdmfegcpab.bank Go.Proofs.Ytffhfpdmfegcpab.atomic Go.Proofs.Ytffhfpdmfegcpab.table Go.Proofs.Ytffhfpdmfegcpab.play Go.Proofs.Ytffhfpdmfegcpab.refDeed Go.Proofs.Ytffhfpdmfegcpab.range
set_option linter.unusedVariables false
set_option linter.unusedSimpArgs false

/-- how many of a list are node k's -/
def cnt (k : Nat) (l : List T5) : Nat := (l.filter fun x => decide (x.d.n = (k : Int))).length
theorem cnt_le (k : Nat) (l : List T5) : cnt k l ≤ l.length := List.length_filter_le _ _
theorem cnt_snoc (k : Nat) (l : List T5) (x : T5) : cnt k (l ++ [x]) = cnt k l + if x.d.n = (k : Int) then 1 else 0 := by
  unfold cnt
  rw [List.filter_append, List.length_append]
  by_cases h : x.d.n = (k : Int)
  · simp [h]
  · simp [h]
/-- the next deed of its node's program -/
def StepOk (ps : List (List D4)) (pre : List T5) (x : T5) : Prop := ∃ p y, ps[x.d.n.toNat]? = some p ∧ p[cnt x.d.n.toNat pre]? = some y ∧ y = x.d
def KeepsP (ps : List (List D4)) (ts : List T5) : Prop := ∀ i x, ts[i]? = some x → StepOk ps (ts.take i) x
noncomputable def keepsB (ps : List (List D4)) (ts : List T5) : Bool := @decide (KeepsP ps ts) (Classical.propDecidable _)
theorem keepsB_no {ps : List (List D4)} {ts : List T5} {i : Nat} {x : T5} (hx : ts[i]? = some x) (h : ¬ StepOk ps (ts.take i) x) : keepsB ps ts = false := by
  unfold keepsB; exact @decide_eq_false _ (Classical.propDecidable _) fun hk => h (hk i x hx)
theorem keepsB_yes {ps : List (List D4)} {ts : List T5} (h : ∀ i x, i < ts.length → ts[i]? = some x → StepOk ps (ts.take i) x) : keepsB ps ts = true := by
  unfold keepsB; exact @decide_eq_true _ (Classical.propDecidable _) fun i x hx => h i x (List.getElem?_eq_some_iff.1 hx).1 hx

def atA (l : List T5) : Array Value := ((List.range 8).map fun k => Value.int .i64 ((cnt k l : Nat) : Int)).toArray
theorem atA_size (l : List T5) : (atA l).size = 8 := by simp [atA]
theorem atA_at (l : List T5) {k : Nat} (h : k < 8) : (atA l)[k]? = some (.int .i64 ((cnt k l : Nat) : Int)) := by simp [atA, h]
theorem atA_set (l : List T5) (x : T5) {k : Nat} (h : k < 8) (hx : x.d.n = (k : Int)) : (atA l).setIfInBounds k (.int .i64 (((cnt k l : Nat) : Int) + 1)) = atA (l ++ [x]) := by
  apply Array.ext_getElem?
  intro j
  rw [Array.getElem?_setIfInBounds]
  by_cases hj : j < 8
  · rw [atA_at _ hj, atA_at _ hj, cnt_snoc]
    by_cases he : k = j
    · subst he
      rw [if_pos rfl, if_pos (by rw [atA_size]; exact h), if_pos hx]
      rfl
    · rw [if_neg he, if_neg (by rw [hx]; omega), Nat.add_zero]
  · rw [Array.getElem?_eq_none (by rw [atA_size]; omega), Array.getElem?_eq_none (by rw [atA_size]; omega)]
    split
    · omega
    · rfl

theorem run_eq_deed (w : World) (a b c d a' b' c' d' : Int) (h1 : (Lit.int .i64 a).wf = true) (h2 : (Lit.int .i64 b).wf = true) (h3 : (Lit.int .i64 c).wf = true) (h4 : (Lit.int .u64 d).wf = true)
    (g1 : (Lit.int .i64 a').wf = true) (g2 : (Lit.int .i64 b').wf = true) (g3 : (Lit.int .i64 c').wf = true) (g4 : (Lit.int .u64 d').wf = true) :
    (Op.equalIn 10000 56 (.agg #[.int .i64 a, .int .i64 b, .int .i64 c, .int .u64 d]) (.agg #[.int .i64 a', .int .i64 b', .int .i64 c', .int .u64 d'])).run Try.prog w
      = .ok (eqv [.int .i64 a, .int .i64 b, .int .i64 c, .int .u64 d] [.int .i64 a', .int .i64 b', .int .i64 c', .int .u64 d']) w :=
  run_equalIn_flat w 3 _ [.int .i64, .int .i64, .int .i64, .int .u64] (by kernel_rfl) (by kernel_rfl) (by kernel_rfl) (by omega) (.inl ⟨_, Try.underlying56⟩)
    [.int .i64 a, .int .i64 b, .int .i64 c, .int .u64 d] [.int .i64 a', .int .i64 b', .int .i64 c', .int .u64 d'] ⟨⟨_, rfl, h1⟩, ⟨_, rfl, h2⟩, ⟨_, rfl, h3⟩, ⟨_, rfl, h4⟩, trivial⟩ ⟨⟨_, rfl, g1⟩, ⟨_, rfl, g2⟩, ⟨_, rfl, g3⟩, ⟨_, rfl, g4⟩, trivial⟩

@[go_sem] theorem setCell_drewN2 {w : World} {n : Nat} {a : Addr} {v : Value} : (w.drewN n).setCell a v = (w.setCell a v).drewN n := rfl
/-- what Keeps answers for an error -/
def keepsE (ps : List (List D4)) (ts : List T5) : Int := if toldE 200 ts = 0 then (if 8 < ps.length then 3 else 0) else toldE 200 ts

def RelK (ps : List (List D4)) (ts : List T5) (w0 : World) (t : TypeId) (i : Value) (wr : World) : Prop :=
  ∃ (k : Nat) (l : Array Obj) (d : Nat), k ≤ ts.length ∧ i = .int .i64 k ∧ wr = (w0.alloc (.cells (atA (ts.take k)) t)).later l d ∧ ∀ i x, i < k → ts[i]? = some x → StepOk ps (ts.take i) x

set_option maxHeartbeats 4000000 in
set_option maxRecDepth 100000 in
theorem keeps_ok (ps : List (List D4)) (hps : ∀ p ∈ ps, ∀ x ∈ p, x.Ok) (pa : Option Addr) (pn pc : Nat) (ts : List T5) (hts : ∀ x ∈ ts, x.Ok) (a : Option Addr) (n c : Nat) (w : World) (hpn : ps.length = pn) (hp8 : pn ≤ 8) (hP : ListsAt DeedsAt w pa ps) (hm : n ≤ maxLen) (hd : ts.length = n) (h : ToldsAt w a ts) (h0 : toldE 200 ts = 0) :
    Calls Try.prog 37 #[.slice pa pn pc, .slice a n c] w (Ret (.tuple #[.bool (keepsB ps ts), .int .i64 0]) w) := by
  have PC := fun w (h : ToldsAt w a ts) => check_any ts 200 (by decide) a n c w hm hd h
  rw [h0] at PC
  have hn : n ≤ 200 := by
    unfold toldE at h0
    split at h0
    · omega
    · omega
  have hf : ∀ x ∈ ts.map (·.d), badOf x = 0 := firstBad_mem (by unfold toldE at h0; rw [if_neg (by omega)] at h0; exact h0)
  have HC := Lib.hid PC
  have HF := Lib.hid hf
  have HDL := Lib.hid hd
  have HPL := Lib.hid hpn
  have HT := Lib.hid h
  have HPS := Lib.hid hps
  have HTS := Lib.hid hts
  have HPP := Lib.hid hP
  have hp8' : ¬ (8 : Int) < pn := by omega
  clear PC h0 hf h hd hps hts hP hpn
  go_enter Try.func37, Try.ntmps37
  go_wp2_with (first
    | (go_at_call 70; refine (HC.out _ (ToldsAt.below HT.out (by repeat (first | exact Below.refl _ _ | apply bs_later | apply bs_alloc | apply bs_drew | apply bs_drewN)))).mono ?_; rintro e w1 ⟨rfl, hb1⟩; obtain ⟨l1, d1, rfl⟩ := later_of hb1; clear hb1))
  go_loopw [25] (RelK ps ts (w.later l1 d1) 128) (fun i _ => n - (intOf i).toNat)
  case atStart => exact ⟨0, #[], _, by omega, rfl, later_zero _, fun i x hi => by omega⟩
  case round =>
    obtain ⟨k, l, d, hk, rfl, rfl, hall⟩ := hrel
    by_cases hlt : k < n
    · obtain ⟨x, hx⟩ := get_some (xs := ts) (k := k) (by rw [HDL.out]; exact hlt)
      have ht := HT.out
      obtain ⟨b, off, rfl⟩ := ToldsAt.form ht hx
      obtain ⟨c0, c1, c2, c3, c4⟩ := ToldsAt.at ht hx
      have hin : inB w b := range.lt_of_cell c0
      have hbad : badOf x.d = 0 := HF.out x.d (List.mem_map.2 ⟨x, List.mem_of_getElem? hx, rfl⟩)
      have hpos := (right_pos hbad).1
      have hxok := HTS.out x (List.mem_of_getElem? hx)
      have HX := Lib.hid hx
      have HALL := Lib.hid hall
      have HKL : Hid (k + 1 ≤ ts.length) := Lib.hid (by rw [HDL.out]; exact hlt)
      have hcl : cnt x.d.n.toNat (ts.take k) ≤ 200 := by
        have h1 := cnt_le x.d.n.toNat (ts.take k)
        have h2 : (ts.take k).length ≤ k := by rw [List.length_take]; omega
        omega
      obtain ⟨⟨xn, xk, xa, xv⟩, xu⟩ := x
      simp only at c0 c1 c2 c3 c4 hpos hcl
      obtain ⟨N, rfl⟩ := Int.eq_ofNat_of_zero_le hpos.1
      have hN8 : N < 8 := by omega
      have hN8' : (N : Int) < 8 := by omega
      have hat := atA_at (ts.take k) hN8
      have hset := atA_set (ts.take k) (⟨⟨(N : Int), xk, xa, xv⟩, xu⟩ : T5) hN8 rfl
      have hcl : cnt N (ts.take k) ≤ 200 := hcl
      have HSTEP : Hid (∀ p y, ps[N]? = some p → p[cnt N (ts.take k)]? = some y → y = (⟨(N : Int), xk, xa, xv⟩ : D4) → StepOk ps (ts.take k) ⟨⟨(N : Int), xk, xa, xv⟩, xu⟩) := Lib.hid fun p y h1 h2 h3 => ⟨p, y, h1, h2, h3⟩
      have HNO : Hid ((∀ p y, ps[N]? = some p → p[cnt N (ts.take k)]? = some y → ¬ y = (⟨(N : Int), xk, xa, xv⟩ : D4)) → keepsB ps ts = false) := Lib.hid fun h1 => keepsB_no HX.out fun ⟨p, y, h2, h3, h4⟩ => h1 p y h2 h3 h4
      clear ht hx hall hbad hpos hk
      have HSET := Lib.hid hset
      clear hset
      generalize hcq : cnt N (ts.take k) = q at *
      by_cases hpN : N < pn
      · obtain ⟨P, hP⟩ := get_some (xs := ps) (k := N) (by rw [HPL.out]; exact hpN)
        obtain ⟨bp, offp, rfl⟩ := ListsAt.form HPP.out hP
        obtain ⟨qa, qc, hcell, hq1, hq2, hq3, hq4⟩ := ListsAt.at HPP.out hP
        have hin2 : inB w bp := range.lt_of_cell hcell
        have hpN' : (N : Int) < pn := by omega
        have hpn3 : ¬ pn ≤ N := by omega
        unfold maxLen at hq2
        by_cases hq : q < P.length
        · obtain ⟨y, hy⟩ := get_some (xs := P) (k := q) hq
          have hyok := HPS.out P (List.mem_of_getElem? hP) y (List.mem_of_getElem? hy)
          obtain ⟨b2, off2, rfl⟩ := RowsAt.form hq4 (i := q) (r := y.cells) (by simp [hy])
          obtain ⟨e0, e1, e2, e3⟩ := DeedsAt.at hq4 hy
          have hin3 : inB w b2 := range.lt_of_cell e0
          have hql : (q : Int) < P.length := by omega
          have hqn3 : ¬ P.length ≤ q := by omega
          obtain ⟨yn, yk, ya, yv⟩ := y
          simp only at e0 e1 e2 e3
          have hrq := fun w => run_eq_deed w yn yk ya yv (N : Int) xk xa xv hyok.1 hyok.2.1 hyok.2.2.1 hyok.2.2.2 hxok.1.1 hxok.1.2.1 hxok.1.2.2.1 hxok.1.2.2.2
          have HP := Lib.hid hP
          have HY := Lib.hid hy
          clear hP hy hq3 hq4 hyok hxok
          by_cases he : (⟨yn, yk, ya, yv⟩ : D4) = ⟨(N : Int), xk, xa, xv⟩
          · have he' : eqv [.int .i64 yn, .int .i64 yk, .int .i64 ya, .int .u64 yv] [.int .i64 (N : Int), .int .i64 xk, .int .i64 xa, .int .u64 xv] = true := eqv_true (congrArg D4.cells he)
            have HST := Lib.hid (HSTEP.out _ _ HP.out HY.out he)
            clear he
            go_wp2
            go_quiet (fail)
            go_wp2
            go_simp
            refine ⟨⟨k + 1, l.push (.cells #[.int .i64 (N : Int), .int .i64 xk, .int .i64 xa, .int .u64 xv, .int .u64 xu] 83), d + nq, HKL.out, by go_num, ?_, ?_⟩, by simp [intOf]; omega⟩
            · rw [take_snoc HX.out, ← HSET.out, ← later_alloc]
              first | rfl | (simp [go_sem]; done)
            · intro i x hi hx
              by_cases hik : i < k
              · exact HALL.out i x hik hx
              · obtain rfl : i = k := by omega
                obtain rfl := Option.some.inj (HX.out.symm.trans hx)
                exact HST.out
          · have he' : eqv [.int .i64 yn, .int .i64 yk, .int .i64 ya, .int .u64 yv] [.int .i64 (N : Int), .int .i64 xk, .int .i64 xa, .int .u64 xv] = false := eqv_false fun h => he (by
              injection h with h1 h2
              injection h2 with h2 h3
              injection h3 with h3 h4
              injection h4 with h4 _
              injection h1 with _ h1
              injection h2 with _ h2
              injection h3 with _ h3
              injection h4 with _ h4
              subst h1 h2 h3 h4
              rfl)
            have HE := Lib.hid (HNO.out fun p y h1 h2 h3 => he (by
              obtain rfl := Option.some.inj (HP.out.symm.trans h1)
              obtain rfl := Option.some.inj (HY.out.symm.trans h2)
              exact h3))
            clear he
            go_wp2
            go_quiet (fail)
            go_wp2
            go_ret2
            exact ⟨congrArg (fun z => Ending.returned (Value.tuple #[.bool z, .int .i64 0])) HE.out.symm, (by repeat (first | exact Below.refl _ _ | apply bs_later | apply bs_alloc | apply bs_drew | apply bs_drewN))⟩
        · have hql : (P.length : Int) ≤ q := by omega
          have hqn : P.length ≤ q := by omega
          have HE := Lib.hid (HNO.out fun p y h1 h2 h3 => by
            obtain rfl := Option.some.inj (hP.symm.trans h1)
            rw [List.getElem?_eq_none (by omega)] at h2; cases h2)
          clear hP hq3 hq4 hq
          go_wp2
          go_quiet (fail)
          go_wp2
          go_ret2
          exact ⟨congrArg (fun z => Ending.returned (Value.tuple #[.bool z, .int .i64 0])) HE.out.symm, (by repeat (first | exact Below.refl _ _ | apply bs_later | apply bs_alloc | apply bs_drew | apply bs_drewN))⟩
      · have hpN' : (pn : Int) ≤ N := by omega
        have hpn2 : pn ≤ N := by omega
        have HE := Lib.hid (HNO.out fun p y h1 h2 h3 => by
          rw [List.getElem?_eq_none (by rw [HPL.out]; omega)] at h1; cases h1)
        go_wp2
        go_quiet (fail)
        go_wp2
        go_ret2
        exact ⟨congrArg (fun z => Ending.returned (Value.tuple #[.bool z, .int .i64 0])) HE.out.symm, (by repeat (first | exact Below.refl _ _ | apply bs_later | apply bs_alloc | apply bs_drew | apply bs_drewN))⟩
    · obtain rfl : k = n := by have := HDL.out; omega
      have HE := Lib.hid (keepsB_yes (ps := ps) (ts := ts) fun i x hi hx => hall i x (by rw [← HDL.out]; exact hi) hx)
      clear hall
      go_wp2
      go_ret2
      exact ⟨congrArg (fun z => Ending.returned (Value.tuple #[.bool z, .int .i64 0])) HE.out.symm, (by repeat (first | exact Below.refl _ _ | apply bs_later | apply bs_alloc | apply bs_drew | apply bs_drewN))⟩

set_option maxHeartbeats 4000000 in
set_option maxRecDepth 100000 in
theorem keeps_bad (ps : List (List D4)) (pa : Option Addr) (pn pc : Nat) (ts : List T5) (a : Option Addr) (n c : Nat) (w : World) (hpn : ps.length = pn) (hpm : pn ≤ maxLen) (hm : n ≤ maxLen) (hd : ts.length = n) (h : ToldsAt w a ts) (h0 : ¬ keepsE ps ts = 0) :
    Calls Try.prog 37 #[.slice pa pn pc, .slice a n c] w (Ret (.tuple #[.bool false, .int .i64 (keepsE ps ts)]) w) := by
  have PC := fun w (h : ToldsAt w a ts) => check_any ts 200 (by decide) a n c w hm hd h
  unfold keepsE at h0 ⊢
  unfold maxLen at hpm
  have HT := Lib.hid h
  by_cases h1 : toldE 200 ts = 0
  · rw [if_pos h1] at h0 ⊢
    rw [h1] at PC
    by_cases h8 : 8 < ps.length
    · rw [if_pos h8]
      have h8' : (8 : Int) < pn := by omega
      have HC := Lib.hid PC
      clear PC h h0 h1 hd hpn
      go_enter Try.func37, Try.ntmps37
      go_wp2_with (first
        | (go_at_call 70; refine (HC.out _ (ToldsAt.below HT.out (by repeat (first | exact Below.refl _ _ | apply bs_later | apply bs_alloc | apply bs_drew | apply bs_drewN)))).mono ?_; rintro e w1 ⟨rfl, hb1⟩; obtain ⟨l1, d1, rfl⟩ := later_of hb1; clear hb1))
      go_ret2
      exact ⟨rfl, (by repeat (first | exact Below.refl _ _ | apply bs_later | apply bs_alloc | apply bs_drew | apply bs_drewN))⟩
    · rw [if_neg h8] at h0; exact absurd rfl h0
  · rw [if_neg h1] at h0 ⊢
    have h1' : (toldE 200 ts != 0) = true := by simpa using h1
    have h1'' : (toldE 200 ts == 0) = false := by simpa using h1
    generalize toldE 200 ts = te at *
    have HC := Lib.hid PC
    clear PC h h0 h1 hd hpn
    go_enter Try.func37, Try.ntmps37
    go_wp2_with (first
      | (go_at_call 70; refine (HC.out _ (ToldsAt.below HT.out (by repeat (first | exact Below.refl _ _ | apply bs_later | apply bs_alloc | apply bs_drew | apply bs_drewN)))).mono ?_; rintro e w1 ⟨rfl, hb1⟩; obtain ⟨l1, d1, rfl⟩ := later_of hb1; clear hb1))
    go_ret2
    exact ⟨rfl, (by repeat (first | exact Below.refl _ _ | apply bs_later | apply bs_alloc | apply bs_drew | apply bs_drewN))⟩
end Go.Proofs.Ytffhfpdmfegcpab.told
