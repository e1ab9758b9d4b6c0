/- The contracts of ProgTells's test of a deed's node, and of slices.IndexFunc, slices.DeleteFunc with it; slices.Clone of deeds. -/
import Derived.Test.YtffhfpdmfegcpabDelRow
namespace Go.Proofs.Ytffhfpdmfegcpab.prog
open Go.ChangeShapes Go.WideShapes Go.ChangeAt Go.RowKit
open Go.Proofs.Ytffhfpdmfegcpab.base Go.Proofs.Ytffhfpdmfegcpab.flat Go.Proofs.Ytffhfpdmfegcpab.table Go.Proofs.Ytffhfpdmfegcpab.addr Go.Proofs.Ytffhfpdmfegcpab.atomic Go.Proofs.Ytffhfpdmfegcpab.told Go.Proofs.Ytffhfpdmfegcpab.rows
set_option linter.unusedVariables false
set_option linter.unusedSimpArgs false

set_option maxHeartbeats 1000000 in
set_option maxRecDepth 100000 in
theorem delTest_any (x : D4) (g : Nat) (K : Int) (w : World) (hk : w.cell? ⟨g, 0, none⟩ = some (.int .i64 K)) :
    Calls Try.prog 50 #[.agg #[.int .i64 x.n, .int .i64 x.k, .int .i64 x.a, .int .u64 x.v], .pointer (some ⟨g, 0, none⟩)] w (Ret (.bool (x.n != K)) w) := by
  have hin : inB w g := lt_of_cell hk
  go_enter Try.func50, Try.ntmps50
  go_wp2
  go_ret
  exact ⟨rfl, (by repeat (first | exact Below.refl _ _ | apply bs_later | apply bs_alloc | apply bs_drew | apply bs_drewN))⟩
theorem own_pushM {W : World} {l : Array Obj} {d base size n : Nat} {e : TypeId} {v : Value} {xs : List Value} (h : (W.later l d).ownsRow base e size v n xs) (o : Obj) (d' : Nat) : (W.later (l.push o) d').ownsRow base e size v n xs := own_push h o d'
def RelI (K : Int) (ls : List D4) (w0 : World) (i : Value) (wr : World) : Prop :=
  ∃ (j : Nat) (l : Array Obj) (d : Nat), j ≤ ls.length ∧ i = .int .i64 j ∧ wr = w0.later l d ∧ ∀ (i : Nat) (y : D4), i < j → ls[i]? = some y → y.n = K
/-- where the first deed of another node is -/
def idxD (K : Int) (ls : List D4) : Int := match ls.findIdx? (fun x => decide (¬ x.n = K)) with | some i => (i : Int) | none => -1
theorem idxD_at {K : Int} {ls : List D4} {i : Nat} {x : D4} (hx : ls[i]? = some x) (hn : ¬ x.n = K) (h : ∀ (j : Nat) (y : D4), j < i → ls[j]? = some y → y.n = K) : idxD K ls = i := by
  have : ls.findIdx? (fun x => decide (¬ x.n = K)) = some i := by
    rw [List.findIdx?_eq_some_iff_getElem]
    obtain ⟨hi, he⟩ := List.getElem?_eq_some_iff.1 hx
    refine ⟨hi, by rw [he]; simpa using hn, fun j hj => ?_⟩
    have := h j ls[j] hj (List.getElem?_eq_getElem (by omega))
    simpa using this
  unfold idxD; rw [this]
theorem idxD_none {K : Int} {ls : List D4} (h : ∀ (j : Nat) (y : D4), j < ls.length → ls[j]? = some y → y.n = K) : idxD K ls = -1 := by
  have : ls.findIdx? (fun x => decide (¬ x.n = K)) = none := by
    rw [List.findIdx?_eq_none_iff]
    intro x hx
    obtain ⟨j, hj⟩ := List.getElem?_of_mem hx
    have := h j x (List.getElem?_eq_some_iff.1 hj).1 hj
    simpa using this
  unfold idxD; rw [this]
set_option maxHeartbeats 1000000 in
set_option maxRecDepth 100000 in
theorem idxDeed_any (K : Int) (ls : List D4) (a : Option Addr) (n c g : Nat) (w : World) (hn : ls.length = n) (hm : n ≤ maxLen) (hL : DeedsAt w a ls) (hk : w.cell? ⟨g, 0, none⟩ = some (.int .i64 K)) :
    Calls Try.prog 76 #[.slice a n c, .func (.func 50) #[] #[.pointer (some ⟨g, 0, none⟩)]] w (Ret (.int .i64 (idxD K ls)) w) := by
  have HLL := Lib.hid hL
  have HNL := Lib.hid hn
  have HK := Lib.hid hk
  have hin : inB w g := lt_of_cell hk
  unfold maxLen at hm
  clear hL hn
  go_enter Try.func76, Try.ntmps76
  go_wp2
  go_loopw [8] (RelI K ls w) (fun i _ => n - (intOf i).toNat)
  case atStart => exact ⟨0, #[], _, Nat.zero_le _, rfl, later_zero _, fun i y hi => by omega⟩
  case round =>
    obtain ⟨j, l, d, hj, rfl, rfl, hall⟩ := hrel
    by_cases hlt : j < n
    · obtain ⟨x, hx⟩ := get_some (xs := ls) (k := j) (by rw [HNL.out]; exact hlt)
      obtain ⟨b, off, rfl⟩ := RowsAt.form HLL.out (i := j) (r := x.cells) (by simp [hx])
      obtain ⟨e0, e1, e2, e3⟩ := DeedsAt.at HLL.out hx
      have hin3 : inB w b := lt_of_cell e0
      have HALL := Lib.hid hall
      have HX := Lib.hid hx
      have HJ : Hid (j + 1 ≤ ls.length) := Lib.hid (by rw [HNL.out]; exact hlt)
      clear hall hx hj
      obtain ⟨xn, xk, xa, xv⟩ := x
      simp only at e0 e1 e2 e3
      have HD := Lib.hid fun w h => delTest_any ⟨xn, xk, xa, xv⟩ g K w h
      by_cases hn : xn = K
      · have hnb : (xn != K) = false := by simpa using hn
        have HNX := Lib.hid hn
        clear hn
        go_wp2_with (go_at_call 50; refine (HD.out _ ?hc).mono ?_; (case hc => go_simp); rintro e w1 ⟨rfl, hb1⟩; obtain ⟨l1, d1, rfl⟩ := later_of hb1; clear hb1; rw [later_later])
        refine ⟨⟨j + 1, _, _, HJ.out, by go_num, rfl, fun i y hi hy => ?_⟩, by simp [intOf]; omega⟩
        by_cases hij : i < j
        · exact HALL.out i y hij hy
        · obtain rfl : i = j := by omega
          have e := HX.out.symm.trans hy
          injection e with e
          subst e
          exact HNX.out
      · have hnb : (xn != K) = true := by simpa using hn
        have HI := Lib.hid (idxD_at HX.out hn HALL.out)
        clear hn
        go_wp2_with (go_at_call 50; refine (HD.out _ ?hc2).mono ?_; (case hc2 => go_simp); rintro e w1 ⟨rfl, hb1⟩; obtain ⟨l1, d1, rfl⟩ := later_of hb1; clear hb1)
        go_ret
        exact ⟨by rw [HI.out]; rfl, (by repeat (first | exact Below.refl _ _ | apply bs_later | apply bs_alloc | apply bs_drew | apply bs_drewN))⟩
    · obtain rfl : j = n := by have := HNL.out; omega
      have HI := Lib.hid (idxD_none (K := K) (ls := ls) fun i y hi hy => hall i y (by rw [← HNL.out]; exact hi) hy)
      clear hall
      go_wp2
      go_ret
      exact ⟨by rw [HI.out]; rfl, (by repeat (first | exact Below.refl _ _ | apply bs_later | apply bs_alloc | apply bs_drew | apply bs_drewN))⟩

/-- behind the deletion: what is left, in a row of the call's own -/
def DelPost (W : World) (ls : List D4) (e : Ending) (w' : World) : Prop :=
  ∃ v l d, e = .returned v ∧ w' = W.later l d ∧ (W.later l d).ownsRow W.heap.size 56 4 v ls.length (cellsOf ls)
def RelD (K : Int) (ls : List D4) (n c g : Nat) (W : World) (i j : Value) (wr : World) : Prop :=
  ∃ (p q : Nat) (l : Array Obj) (d : Nat) (ds : List D4), p < q ∧ q ≤ n ∧ i = .int .i64 p ∧ j = .int .i64 q ∧ wr = W.later l d ∧ ds.length = n
    ∧ (W.later l d).ownsRow W.heap.size 56 4 (.slice (some ⟨g, 0, none⟩) n c) n (cellsOf ds)
    ∧ ds.take p = (ls.take q).filter (fun x => decide (x.n = K)) ∧ ∀ i, q ≤ i → ds[i]? = ls[i]?
theorem idxD_cases (K : Int) (ls : List D4) : (idxD K ls = -1 ∧ ls.filter (fun x => decide (x.n = K)) = ls) ∨ ∃ p, p < ls.length ∧ idxD K ls = (p : Int) ∧ ls.take p = (ls.take (p + 1)).filter (fun x => decide (x.n = K)) := by
  unfold idxD
  cases h : ls.findIdx? (fun x => decide (¬ x.n = K)) with
  | none =>
    left
    rw [List.findIdx?_eq_none_iff] at h
    refine ⟨rfl, List.filter_eq_self.2 fun x hx => ?_⟩
    have := h x hx
    simpa using this
  | some p =>
    right
    rw [List.findIdx?_eq_some_iff_getElem] at h
    obtain ⟨hp, h1, h2⟩ := h
    refine ⟨p, hp, rfl, ?_⟩
    rw [List.take_add_one, List.getElem?_eq_getElem hp, List.filter_append]
    have e1 : (ls.take p).filter (fun x => decide (x.n = K)) = ls.take p := List.filter_eq_self.2 fun x hx => by
      obtain ⟨j, hj⟩ := List.getElem?_of_mem hx
      rw [List.getElem?_take] at hj
      split at hj
      · rename_i hjp
        have := h2 j hjp
        rw [List.getElem?_eq_getElem (by omega)] at hj
        injection hj with hj
        rw [hj] at this
        simpa using this
      · cases hj
    rw [e1]
    have e2 : decide (ls[p].n = K) = false := by simpa using h1
    simp [e2]
theorem zero_deed : ∀ w, (zeroValue 56).run Try.prog w = .ok (.agg #[.int .i64 0, .int .i64 0, .int .i64 0, .int .u64 0]) w := Try.zeroValue56
set_option maxHeartbeats 4000000 in
set_option maxRecDepth 100000 in
theorem delDeed_some (K : Int) (ls : List D4) (n c g gk : Nat) (W : World) (l : Array Obj) (d : Nat) (hn : ls.length = n) (hm : n ≤ 200) (hg : W.heap.size ≤ g) (h : (W.later l d).ownsRow W.heap.size 56 4 (.slice (some ⟨g, 0, none⟩) n c) n (cellsOf ls)) (hk : W.cell? ⟨gk, 0, none⟩ = some (.int .i64 K)) :
    Calls Try.prog 48 #[.slice (some ⟨g, 0, none⟩) n c, .func (.func 50) #[] #[.pointer (some ⟨gk, 0, none⟩)]] (W.later l d) (DelPost W (ls.filter (fun x => decide (x.n = K)))) := by
  have hin : inB W gk := lt_of_cell hk
  have hcap := own_capsM h
  have hds : DeedsAt (W.later l d) (some ⟨g, 0, none⟩) ls := own_deeds (by rw [hn]; exact h)
  have HI := Lib.hid (fun w h1 h2 => idxDeed_any K ls (some ⟨g, 0, none⟩) n c gk w hn (by unfold maxLen; omega) h1 h2)
  have HDS := Lib.hid hds
  have HO := Lib.hid h
  have HNL := Lib.hid hn
  unfold maxLen at hcap
  rcases idxD_cases K ls with ⟨h1, h2⟩ | ⟨p0, hp0, h1, h2⟩
  · rw [h1] at HI
    clear hds h
    go_enter Try.func48, Try.ntmps48
    go_wp2_with (go_at_call 76; refine (HI.out _ HDS.out ?hc).mono ?_; (case hc => go_simp); rintro e w1 ⟨rfl, hb1⟩; obtain ⟨l1, d1, rfl⟩ := later_of hb1; clear hb1; rw [later_later])
    go_ret
    exact ⟨_, _, _, rfl, rfl, by rw [h2, HNL.out]; exact own_more HO.out _ _⟩
  · rw [h1] at HI
    have hpn : p0 < n := by rw [← hn]; exact hp0
    have hne1 : ((p0 : Int) == -1) = false := beq_eq_false_iff_ne.2 (by omega)
    have H2 := Lib.hid h2
    clear hds h h1 h2 hn
    go_enter Try.func48, Try.ntmps48
    go_wp2_with (go_at_call 76; refine (HI.out _ HDS.out ?hc3).mono ?_; (case hc3 => go_simp); rintro e w1 ⟨rfl, hb1⟩; obtain ⟨l1, d1, rfl⟩ := later_of hb1; clear hb1; rw [later_later])
    go_loopw [5, 6] (RelD K ls n c g W) (fun _ j _ => n - (intOf j).toNat)
    case atStart => exact ⟨p0, p0 + 1, _, _, ls, by omega, by omega, rfl, by go_num, rfl, HNL.out, own_more HO.out _ _, H2.out, fun i _ => rfl⟩
    case round =>
      obtain ⟨p, q, l2, d2, ds, hpq, hqn, rfl, rfl, rfl, hdl, hown, htk, hrest⟩ := hrel
      have HO2 := Lib.hid hown
      have HTK := Lib.hid htk
      have HRE := Lib.hid hrest
      have HDL := Lib.hid hdl
      have hgf := own_farM hown
      clear hown htk hrest hdl
      by_cases hlt : q < n
      · obtain ⟨x, hx⟩ := get_some (xs := ls) (k := q) (by rw [HNL.out]; exact hlt)
        have HX := Lib.hid hx
        obtain ⟨e0, e1, e2, e3⟩ := DeedsAt.at (own_deeds (by have h := HO2.out; rw [← HDL.out] at h; exact h)) (i := q) (x := x) (by rw [HRE.out q (Nat.le_refl _)]; exact hx)
        simp only [Nat.zero_add] at e0 e1 e2 e3
        obtain ⟨z, hz⟩ := get_some (xs := ds) (k := p) (by rw [HDL.out]; omega)
        have HTQ : Hid (ls.take (q + 1) = ls.take q ++ [x]) := Lib.hid (by rw [List.take_add_one, hx]; rfl)
        have hpn2 : (p : Int) < n := by omega
        have HZ := Lib.hid hz
        clear hx hz
        obtain ⟨xn, xk, xa, xv⟩ := x
        simp only at e0 e1 e2 e3
        have HD := Lib.hid fun w h => delTest_any ⟨xn, xk, xa, xv⟩ gk K w h
        by_cases hn : xn = K
        · have hnb : (xn != K) = false := by simpa using hn
          obtain ⟨l3, d3, l4, d4, l5, d5, l6, d6, ⟨c0, f0⟩, s1, g1, c1, f1, s2, g2, c2, f2, s3, g3, c3, f3, s4, h4⟩ := own_deed HO2.out HDL.out (Nat.le_refl _) hg HZ.out ⟨xn, xk, xa, xv⟩
          have H4 := Lib.hid h4
          have HNX := Lib.hid hn
          simp only at s1 s2 s3 s4
          clear h4 hn
          go_wp2_with (go_at_call 50; refine (HD.out _ ?hc4).mono ?_; (case hc4 => go_simp); rintro e w1 ⟨rfl, hb1⟩; obtain ⟨l7, d7, rfl⟩ := later_of hb1; clear hb1)
          refine ⟨⟨p + 1, q + 1, _, _, ds.set p ⟨xn, xk, xa, xv⟩, by omega, hlt, by go_num, by go_num, later_al _ _ _ _ _ _, by rw [List.length_set]; exact HDL.out, own_more (own_pushM H4.out _ 0) _ _, ?_, fun i hi => ?_⟩, by simp [intOf]; omega⟩
          · rw [HTQ.out, List.filter_append, ← HTK.out, List.take_add_one, List.getElem?_set_self (by rw [HDL.out]; omega), List.take_set_of_le (Nat.le_refl _)]
            simp [HNX.out]
          · rw [List.getElem?_set_ne (by omega)]
            exact HRE.out i (by omega)
        · have hnb : (xn != K) = true := by simpa using hn
          have HNX := Lib.hid hn
          clear hn
          go_wp2_with (go_at_call 50; refine (HD.out _ ?hc5).mono ?_; (case hc5 => go_simp); rintro e w1 ⟨rfl, hb1⟩; obtain ⟨l7, d7, rfl⟩ := later_of hb1; clear hb1)
          refine ⟨⟨p, q + 1, _, _, ds, by omega, hlt, rfl, by go_num, later_al _ _ _ _ _ _, HDL.out, own_more (own_pushM HO2.out _ 0) _ _, ?_, fun i hi => HRE.out i (by omega)⟩, by simp [intOf]; omega⟩
          rw [HTQ.out, List.filter_append, ← HTK.out]
          simp [HNX.out]
      · obtain rfl : q = n := by omega
        obtain ⟨l8, d8, xs8, s8, h8, k8⟩ := own_cells (Nat.le_refl _) hg (Builtin.zeroCells (Value.agg #[.int .i64 0, .int .i64 0, .int .i64 0, .int .u64 0]).cells (q - p)).toList (p * 4) HO2.out
        have hcl : ∀ ty, (Builtin.clear_ #[60] ty #[.slice (some ⟨g, p * 4, none⟩) (q - p) (c - p)]).run Try.prog (W.later l2 d2) = .ok (.tuple #[]) (W.later l8 d8) := fun ty => by
          rw [← s8]
          refine run_clear_rows _ _ 56 ty _ 4 Try.underlying60 zero_deed rfl ?_ g (p * 4) (q - p) (c - p) (by omega) (fun j hj => ?_) (fun j _ => HO2.out.frozenAt _)
          · intro v hv
            simp [Value.cells] at hv
            rcases hv with rfl | rfl | rfl | rfl <;> rfl
          · have hjj : p * 4 + j < q * 4 := by omega
            rw [HO2.out.cellAt _ hjj]
            have : p * 4 + j < (cellsOf ds).length := by rw [cellsOf_len, HDL.out]; exact hjj
            simp [List.getElem?_eq_getElem this]
        have H8 := Lib.hid h8
        have K8 := Lib.hid k8
        clear h8 k8 s8
        go_wp2
        go_ret
        have hq : ls.take q = ls := List.take_of_length_le (by rw [HNL.out]; exact Nat.le_refl _)
        have hf : ls.filter (fun x => decide (x.n = K)) = ds.take p := by rw [HTK.out, hq]
        have hfl : (ds.take p).length = p := by rw [List.length_take, HDL.out]; omega
        refine ⟨_, l8, d8, rfl, rfl, ?_⟩
        rw [hf, hfl, ← cellsOf_take, ← K8.out (p * 4) (Nat.le_refl _)]
        exact own_first H8.out (by omega)
set_option maxHeartbeats 1000000 in
set_option maxRecDepth 100000 in
theorem delDeed_nil (K : Int) (gk : Nat) (W : World) (l : Array Obj) (d : Nat) (hk : W.cell? ⟨gk, 0, none⟩ = some (.int .i64 K)) :
    Calls Try.prog 48 #[.slice none 0 0, .func (.func 50) #[] #[.pointer (some ⟨gk, 0, none⟩)]] (W.later l d) (DelPost W []) := by
  have hin : inB W gk := lt_of_cell hk
  have PI := fun w h2 => idxDeed_any K [] none 0 0 gk w rfl (by unfold maxLen; omega) (.inl rfl) h2
  rw [show idxD K [] = -1 from rfl] at PI
  have HI := Lib.hid PI
  clear PI
  go_enter Try.func48, Try.ntmps48
  go_wp2_with (go_at_call 76; refine (HI.out _ ?hc).mono ?_; (case hc => go_simp); rintro e w1 ⟨rfl, hb1⟩; obtain ⟨l1, d1, rfl⟩ := later_of hb1; clear hb1; rw [later_later])
  go_ret
  exact ⟨_, _, _, rfl, rfl, World.ownsRow_nil _ _ _ _⟩
theorem delDeed_own (K : Int) (ls : List D4) (v : Value) (n gk : Nat) (W : World) (l : Array Obj) (d : Nat) (hn : ls.length = n) (hm : n ≤ 200) (h : (W.later l d).ownsRow W.heap.size 56 4 v n (cellsOf ls)) (hk : W.cell? ⟨gk, 0, none⟩ = some (.int .i64 K)) :
    Calls Try.prog 48 #[v, .func (.func 50) #[] #[.pointer (some ⟨gk, 0, none⟩)]] (W.later l d) (DelPost W (ls.filter (fun x => decide (x.n = K)))) := by
  rcases h.2 with ⟨rfl, h0⟩ | ⟨g, cap, cur, rfl, hb, _⟩
  · subst h0
    obtain rfl : ls = [] := List.eq_nil_of_length_eq_zero hn
    exact delDeed_nil K gk W l d hk
  · exact delDeed_some K ls n cap g gk W l d hn hm hb h hk
/-- behind a copy: a row of the call's own -/
def OwnPost (w : World) (ls : List D4) (e : Ending) (w' : World) : Prop :=
  ∃ v l d, e = .returned v ∧ w' = w.later l d ∧ (w.later l d).ownsRow w.heap.size 56 4 v ls.length (cellsOf ls)
set_option maxHeartbeats 2000000 in
set_option maxRecDepth 100000 in
theorem cloneDeed_any (ls : List D4) (a : Option Addr) (n c : Nat) (w : World) (hn : ls.length = n) (hm : n ≤ 200) (ha : a = none → n = 0) (hL : DeedsAt w a ls) :
    Calls Try.prog 49 #[.slice a n c] w (OwnPost w ls) := by
  have HNL := Lib.hid hn
  have HLL := Lib.hid hL
  have q := fun (w : World) (a : Option Addr) (n c n' c' : Nat) => Lib.run_eql_slice_nil w _ _ a n c n' c' Try.underlying60
  obtain ⟨i0, hi, hz0, hz1, hz2⟩ := info_parts info_deed
  clear hn hL
  cases a with
  | none =>
    obtain rfl := ha rfl
    go_enter Try.func49, Try.ntmps49
    go_wp2
    go_ret
    obtain rfl : ls = [] := List.eq_nil_of_length_eq_zero HNL.out
    exact ⟨_, #[], _, rfl, later_zero _, World.ownsRow_nil _ _ _ _⟩
  | some A =>
    have HC : Hid (∀ j u, (cellsOf ls)[j]? = some u → w.cell? (A.add j) = some u) := Lib.hid (by
      intro j u hj
      have hjl := (List.getElem?_eq_some_iff.1 hj).1
      rw [cellsOf_len] at hjl
      obtain ⟨x, hx⟩ := get_some (xs := ls) (k := j / 4) (by omega)
      obtain ⟨b, off, hA⟩ := RowsAt.form HLL.out (i := j / 4) (r := x.cells) (by simp [hx])
      injection hA with hA
      subst hA
      have h4 := cellsOf_get ls (j / 4) (j % 4) x hx (by omega)
      rw [show j / 4 * 4 + j % 4 = j by omega, hj] at h4
      rw [Addr.add_lit, show off + j = off + j / 4 * 4 + j % 4 by omega]
      exact RowsAt.at HLL.out (r := x.cells) (by simp [hx]) h4.symm)
    clear ha
    go_enter Try.func49, Try.ntmps49
    go_wp2_with (at_builtin; refine wpList_append_own _ rfl _ _ 60 rfl w.heap.size 56 i0 _ 4 32 Try.underlying60 hi hz0 hz1 hz2 rfl (by decide) _ _ _ rfl (World.ownsRow_made w #[] 0 (Nat.le_refl _) (Nat.zero_le _) rfl) A n c (cellsOf ls) rfl ?qc1 ?qc2 ?qc3 ?qc4 ?qc5 ?qc6 ?_)
    case qc1 => rw [cellsOf_len, HNL.out]
    case qc2 =>
      intro j u hj
      exact Lib.cell?_alloc_some _ (HC.out j u hj)
    case qc3 =>
      intro u hu
      obtain ⟨x, _, hx⟩ := List.mem_flatMap.1 hu
      simp only [D4.cells, List.mem_cons, List.not_mem_nil, or_false] at hx
      rcases hx with rfl | rfl | rfl | rfl <;> rfl
    case qc4 => unfold maxLen; omega
    case qc5 => omega
    case qc6 => simp
    intro v' w1 hown hgrow hnil
    have hb := below_grown (W0 := w) (bs_alloc (Below.refl _ _) _) hgrow (fun k hk => by simp [Value.ownBlock] at hk; omega)
    obtain ⟨l, d, rfl⟩ := later_of hb
    have HO := Lib.hid hown
    clear hown hgrow hnil hb
    go_wp2
    go_ret
    exact ⟨v', l, d, rfl, rfl, by have := HO.out; rw [HNL.out]; simpa using this⟩
end Go.Proofs.Ytffhfpdmfegcpab.prog
