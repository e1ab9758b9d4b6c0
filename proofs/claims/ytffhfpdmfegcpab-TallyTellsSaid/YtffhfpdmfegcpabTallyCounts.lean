/- The contract of tally.Counts. -/
import Derived.Test.YtffhfpdmfegcpabTallyCheck
import Derived.Test.YtffhfpdmfegcpabProgMerge
import Derived.Test.YtffhfpdmfegcpabPtrMap
import Derived.Test.YtffhfpdmfegcpabCountRow
import Derived.Deep.RegionLaw
import Derived.Deep.DeepCutAuto
import Derived.Deep.CutBlock
namespace Go.Proofs.Ytffhfpdmfegcpab.tally
open Go.ChangeShapes Go.WideShapes Go.ChangeAt Go.RowKit
open Go.Proofs.Ytffhfpdmfegcpab.base Go.Proofs.Ytffhfpdmfegcpab.flat Go.Proofs.Ytffhfpdmfegcpab.table Go.Proofs.Ytffhfpdmfegcpab.addr Go.Proofs.Ytffhfpdmfegcpab.atomic Go.Proofs.Ytffhfpdmfegcpab.told Go.Proofs.Ytffhfpdmfegcpab.prog Go.Proofs.Ytffhfpdmfegcpab.rows Go.Proofs.Ytffhfpdmfegcpab.ptrMap
set_option linter.unusedVariables false
set_option linter.unusedSimpArgs false

theorem info_count : (Try.prog.info? 52).map (fun i => (i.zero, i.size, i.bytes)) = some (some (.agg #[.int .i64 0, .int .i64 0, .int .i64 0, .int .i64 0, .int .i64 0]), 5, 40) := by kernel_rfl
/-- kind by kind: where the count lies -/
def spotF (o : Nat) (x : Int) : Option Nat := if 1 ≤ x ∧ x ≤ 4 then some (o + (x - 1).toNat) else none
theorem spotF_of {o : Nat} {x : Int} {c : Nat} (h : spotF o x = some c) : (1 ≤ x ∧ x ≤ 4) ∧ c = o + (x - 1).toNat := by
  unfold spotF at h
  split at h
  · rename_i hx; injection h with h; exact ⟨hx, h.symm⟩
  · cases h
theorem isMap_put {D : DataW Unit} (h : Maps.IsMap D) (kl : Lit) (d : DataW Unit) : Maps.IsMap (D.put kl d) := h.put _ _
theorem holds_four {D : DataW Unit} {f : Int → Option Nat} {o : Nat} (h : Holds D f) (e : ∀ x, f x = spotF o x) : Holds D (spotF o) := holds_congr h e
theorem spot_eq (o : Nat) {f : Int → Option Nat} (h1 : f 1 = some o) (h2 : f 2 = some (o + 1)) (h3 : f 3 = some (o + 2)) (h4 : f 4 = some (o + 3)) (h0 : ∀ x, ¬ (1 ≤ x ∧ x ≤ 4) → f x = none) : ∀ x, f x = spotF o x := by
  intro x
  unfold spotF
  split
  · rename_i h
    obtain rfl | rfl | rfl | rfl : x = 1 ∨ x = 2 ∨ x = 3 ∨ x = 4 := by omega
    · exact h1
    · exact h2
    · exact h3
    · exact h4
  · rename_i h; exact h0 x h
def Inn (W0 : World) (g gm r bx n o : Nat) (k : Int) (b : Bool) (cs cs' : List Value) (D : DataW Unit) (wr : World) : Prop :=
  ∃ (left : Lit → Bool) (cnt : Nat), wr.ranges Try.prog 54 (PR g) gm r 4 D left cnt ∧ St W0 52 g bx n k b (if left (.int .i64 k) then cs else cs') wr
def MidC (W0 : World) (g bx n o : Nat) (k : Int) (b : Bool) (cs : List Value) (c47 : Value) (wx : World) : Prop :=
  ∃ (gm r : Nat) (D : DataW Unit), c47 = .pointer (some ⟨r, 0, none⟩) ∧ Holds D (spotF o) ∧ (W0.heap.size ≤ gm ∧ W0.heap.size ≤ r) ∧ (gm ≠ g ∧ gm ≠ bx ∧ r ≠ g ∧ r ≠ bx) ∧ wx.ranges Try.prog 54 (PR g) gm r 4 D (Maps.has D) (Maps.size D) ∧ St W0 52 g bx n k b cs wx
theorem mid_mk {W0 : World} {g bx n o gm : Nat} {k : Int} {b : Bool} {cs : List Value} {D : DataW Unit} {f : Int → Option Nat} {w4 w5 : World} (hD : Holds D f) (hf : ∀ x, f x = spotF o x) (h1 : W0.heap.size ≤ gm ∧ gm ≠ g ∧ gm ≠ bx) (hgb : W0.heap.size ≤ g) (hs : St W0 52 g bx n k b cs w4)
    (hr : w5.ranges Try.prog 54 (PR g) gm w4.heap.size 4 D (Maps.has D) (Maps.size D)) (hg : w4.grownBy w5 none) : MidC W0 g bx n o k b cs (.pointer (some ⟨w4.heap.size, 0, none⟩)) w5 := by
  have h2 := (hs.own.lt g rfl).2
  have h3 := lt_of_cell hs.c1
  exact ⟨gm, _, D, rfl, holds_congr hD hf, ⟨h1.1, by omega⟩, ⟨h1.2.1, h1.2.2, by omega, by omega⟩, hr, hs.kept hg (fun i hi => by cases hi)⟩
theorem eq_dec (x k : Int) : ((x == k) = true ∧ Hid (x = k)) ∨ ((x == k) = false ∧ Hid (¬ x = k)) := by
  by_cases h : x = k
  · exact .inl ⟨by simpa using h, Lib.hid h⟩
  · exact .inr ⟨by simpa using h, Lib.hid h⟩
theorem ptr_facts {W0 : World} {tc : TypeId} {g bx n o a0 y : Nat} {k x v : Int} {b : Bool} {cs cs' : List Value} {left : Lit → Bool} {w : World} (h : St W0 tc g bx n k b (if left (.int .i64 k) = true then cs else cs') w) (hlk : left (.int .i64 x) = true) (hx : x = k) (hf : spotF o x = some y) (ha : a0 = (k - 1).toNat) (hc : cs[o + a0]? = some (.int .i64 v)) (hn : o + a0 < n * 5) :
    y = o + a0 ∧ w.cell? ⟨g, y, none⟩ = some (.int .i64 v) ∧ w.frozen? ⟨g, y, none⟩ = false ∧ Hid (St W0 tc g bx n k b cs w) := by
  subst hx
  rw [if_pos hlk] at h
  obtain ⟨h14, rfl⟩ := spotF_of hf
  subst ha
  exact ⟨rfl, by rw [h.own.cellAt _ hn]; exact hc, h.own.frozenAt _, Lib.hid h⟩
theorem done_facts {W0 : World} {tc : TypeId} {g bx n q : Nat} {k v : Int} {b : Bool} {cs cs' : List Value} {left : Lit → Bool} {w : World} (h : St W0 tc g bx n k b (if left (.int .i64 k) = true then cs else cs') w) (hl : ∀ kl, left kl = false) (hc : cs'[q]? = some (.int .i64 v)) (hn : q < n * 5) :
    w.cell? ⟨g, q, none⟩ = some (.int .i64 v) ∧ w.frozen? ⟨g, q, none⟩ = false ∧ Hid (St W0 tc g bx n k b cs' w) := by
  rw [if_neg (by rw [hl]; decide)] at h
  exact ⟨by rw [h.own.cellAt _ hn]; exact hc, h.own.frozenAt _, Lib.hid h⟩
theorem st_far {W0 : World} {tc : TypeId} {g bx n : Nat} {k : Int} {b : Bool} {cs : List Value} {l : Array Obj} {d : Nat} (h : St W0 tc g bx n k b cs (W0.later l d)) : farB W0 l g := by have h := (h.own.lt g rfl).2; simpa [farB] using h
theorem st_set {W0 : World} {tc : TypeId} {g bx n : Nat} {k : Int} {b : Bool} {cs : List Value} {l : Array Obj} {d : Nat} (h : St W0 tc g bx n k b cs (W0.later l d)) (hg : W0.heap.size ≤ g) (hne : g ≠ bx) (q : Nat) (v : Value) :
    ∃ l' d', (W0.later l d).setCell ⟨g, q, none⟩ v = W0.later l' d' ∧ Hid (St W0 tc g bx n k b (cs.set q v) (W0.later l' d')) := by
  have h1 := h.store hg hne q v
  obtain ⟨l', d', e⟩ := h1.low
  exact ⟨l', d', e, Lib.hid (e ▸ h1)⟩
theorem ranges_set {P : Program} {kt : TypeId} {R : Value → Option (DataW Unit × List MemPlace)} {b r n cnt q g : Nat} {D : DataW Unit} {left : Lit → Bool} {w : World} {v : Value} (h : w.ranges P kt R b r n D left cnt) (hg : w.grownBy (w.setCell ⟨g, q, none⟩ v) (some g)) (hb : g ≠ b) (hr : g ≠ r) : (w.setCell ⟨g, q, none⟩ v).ranges P kt R b r n D left cnt :=
  h.kept hg (fun e => hb (by injection e with e; exact e.symm)) (fun e => hr (by injection e with e; exact e.symm))
theorem St.alloc {W0 : World} {tc : TypeId} {g bx n : Nat} {k : Int} {b : Bool} {cs : List Value} {w : World} (h : St W0 tc g bx n k b cs w) (o : Obj) : St W0 tc g bx n k b cs (w.alloc o) := h.kept (World.grownBy_alloc w o none) (fun i hi => by cases hi)
theorem St.drew {W0 : World} {tc : TypeId} {g bx n : Nat} {k : Int} {b : Bool} {cs : List Value} {w : World} (h : St W0 tc g bx n k b cs w) : St W0 tc g bx n k b cs w.drew := by
  obtain ⟨l, d, e⟩ := h.low
  exact ⟨⟨l, d + 1, by rw [e]; rfl⟩, h.own, h.c1, h.c5⟩
theorem st_mk {W0 : World} {tc tE : TypeId} {g n : Nat} {l : Array Obj} {d : Nat} {a k c v u : Int} {b : Bool} {cs : List Value} {bx : Nat} (hbx : bx = W0.heap.size + l.size) (h : (W0.later l d).ownsRow W0.heap.size tc 5 (.slice (some ⟨g, 0, none⟩) n n) n cs) : St W0 tc g bx n k b cs ((W0.later l d).alloc (.cells #[.int .i64 a, .int .i64 k, .int .i64 c, .int .u64 v, .int .u64 u, .bool b] tE)) :=
  ⟨⟨_, _, later_alloc _ _ _ _⟩, h.alloc _, World.cell?_alloc_at _ _ _ _ (by rw [size_later]; exact hbx), World.cell?_alloc_at _ _ _ _ (by rw [size_later]; exact hbx)⟩
theorem map_mk {w : World} {P : Program} {k : TypeId} {R : Value → Option (DataW Unit × List MemPlace)} {b : Nat} (hb : b = w.heap.size) : (w.alloc (.map #[] 0)).drew.ownsMap P k R b 0 (.map []) := by
  subst hb; exact World.ownsMap.drew (World.ownsMap_made w P k R)
set_option maxHeartbeats 4000000 in
set_option maxRecDepth 100000 in
theorem counts_ok (cn cs cy cb : Int) (ts : List E6) (a : Option Addr) (m c : Nat) (w : World) (hm : ts.length = m) (hL : EventsAt w a ts) (h0 : tallyE cn cs cy cb ts = 0) :
    Calls Try.prog 24 #[.agg #[.int .i64 cn, .int .i64 cs, .int .i64 cy, .int .i64 cb], .slice a m c] w (CountsPost cn.toNat 0 ts w) := by
  obtain ⟨hcfg, hev0⟩ := tallyE_ok h0
  obtain ⟨h200, hev⟩ := evE_ok hev0
  have PC := fun w h => tally.checked_any cn cs cy cb ts a m c w (by rw [← hm]; unfold maxLen; omega) hm h
  rw [h0] at PC
  have hcn : 2 ≤ cn ∧ cn ≤ 8 := ⟨hcfg.1, hcfg.2.1⟩
  obtain ⟨n, rfl⟩ := Int.eq_ofNat_of_zero_le (by omega : 0 ≤ cn)
  have hn2 : 2 ≤ n ∧ n ≤ 8 := by omega
  have hm2 : m ≤ 200 := by omega
  rw [Int.toNat_natCast]
  have HC := Lib.hid PC
  have HLL := Lib.hid hL
  have HML := Lib.hid hm
  have HEV := Lib.hid hev
  obtain ⟨i1, hi, hz0, hz1, hz2⟩ := info_parts info_count
  clear PC hL hm hcfg hev hev0 h0 h200
  go_enter Try.func24, Try.ntmps24
  go_wp2_with (first
    | (go_at_call 66; refine (HC.out _ (EventsAt.below HLL.out (by repeat (first | exact Below.refl _ _ | apply bs_later | apply bs_alloc | apply bs_drew | apply bs_drewN)))).mono ?_; rintro e w1 ⟨rfl, hb1⟩; obtain ⟨l1, d1, rfl⟩ := later_of hb1; clear hb1)
    | (at_make; refine wpList_make_full _ rfl _ _ 45 rfl (w.heap.size + 1) 52 i1 _ 5 Try.underlying45 hi hz0 hz1 .i64 .i64 _ _ n rfl rfl rfl rfl ?m1 ?m2 ?m3 ?_))
  case m1 => rw [hz2]; omega
  case m2 => unfold maxLen; omega
  case m3 => simp
  intro w2 hown hgrow
  have hb2 := below_grown (W0 := (w.alloc (.cells #[.int .i64 (n : Int), .int .i64 cs, .int .i64 cy, .int .i64 cb] 42))) (bs_later (Below.refl _ _) _ _) hgrow (fun k hk => by cases hk)
  obtain ⟨l2, d2, rfl⟩ := later_of hb2
  rw [made_counts] at hown
  generalize w.heap.size + 1 + l1.size = g at *
  have HO := Lib.hid hown
  clear hown hgrow hb2
  go_wp2
  have hgb : w.heap.size + 1 ≤ g := by have := (HO.out.lt g rfl).1; exact this
  have HO1 : Hid (((w.alloc (.cells #[.int .i64 (n : Int), .int .i64 cs, .int .i64 cy, .int .i64 cb] 42)).later l2 d2).ownsRow (w.alloc (.cells #[.int .i64 (n : Int), .int .i64 cs, .int .i64 cy, .int .i64 cb] 42)).heap.size 52 5 (.slice (some ⟨g, 0, none⟩) n n) n (cellsC (cntsL n []))) := Lib.hid (by have h := HO.out; exact ⟨h.1, h.2.imp id fun ⟨b, c, cur, h1, h2, h3⟩ => ⟨b, c, cur, h1, by simpa using h2, h3⟩⟩)
  clear HO
  go_loopw [24] (RelCn ts n g 52 (w.alloc (.cells #[.int .i64 (n : Int), .int .i64 cs, .int .i64 cy, .int .i64 cb] 42))) (fun i _ => m - (intOf i).toNat)
  case atStart => exact ⟨0, _, _, by omega, rfl, rfl, HO1.out⟩
  case round =>
    obtain ⟨j, l, d, hj, rfl, rfl, hown⟩ := hrel
    by_cases hlt : j < m
    · obtain ⟨y, hy⟩ := get_some (xs := ts) (k := j) (by rw [HML.out]; exact hlt)
      obtain ⟨bq, offq, rfl⟩ := EventsAt.form HLL.out hy
      obtain ⟨e0, e1, e2, e3, e4, e5⟩ := EventsAt.at HLL.out hy
      have hin3 : inB w bq := lt_of_cell e0
      have hyv := HEV.out j y hy
      have HJ : Hid (j + 1 ≤ ts.length) := Lib.hid (by rw [HML.out]; exact hlt)
      have hgf : farB (w.alloc (.cells #[.int .i64 (n : Int), .int .i64 cs, .int .i64 cy, .int .i64 cb] 42)) l g := by have h := (hown.lt g rfl).2; simpa [farB] using h
      have HTK : Hid (ts.take (j + 1) = ts.take j ++ [y]) := Lib.hid (by rw [List.take_add_one, hy]; rfl)
      obtain ⟨⟨yn, yk, ya, yv⟩, yu, yb⟩ := y
      simp only at e0 e1 e2 e3 e4 e5 hyv
      have hpos := (right_pos hyv.1).1.1
      have hk14 := (right_pos hyv.1).2.1
      have hKn := hyv.2
      obtain ⟨K, rfl⟩ := Int.eq_ofNat_of_zero_le hpos
      have hK : K < n := by omega
      have hKI2 : (K : Int) < n := hKn
      have HSN := Lib.hid (cntsL_snoc n (ts.take j) (x := ⟨⟨(K : Int), yk, ya, yv⟩, yu, yb⟩) (k := K) rfl hk14)
      have HCG := Lib.hid (cntsL_get hK (ts.take j))
      have HBD := Lib.hid (fun i => cnt_bd K (ts.take j) i)
      have HTL : Hid ((ts.take j).length ≤ 200) := Lib.hid (by rw [List.length_take]; omega)
      have HAO := Lib.hid hown
      clear hy hj hown hyv hpos
      go_upto_region 9 with (fail)
      obtain ⟨a0, ha0⟩ : ∃ a0, a0 = (yk - 1).toNat := ⟨_, rfl⟩
      have ha4 : a0 < 4 := by omega
      obtain ⟨CS, hCS⟩ : ∃ CS, CS = cellsC (cntsL n (ts.take j)) := ⟨_, rfl⟩
      obtain ⟨v0, hv0⟩ : ∃ v0, v0 = (cntL K (ts.take j)).nth a0 := ⟨_, rfl⟩
      obtain ⟨v4, hv4⟩ : ∃ v4, v4 = (cntL K (ts.take j)).nth 4 := ⟨_, rfl⟩
      have hb0 : 0 ≤ v0 ∧ v0 ≤ 200 := by have h1 := HBD.out a0; have h2 := HTL.out; omega
      have hb4 : 0 ≤ v4 ∧ v4 ≤ 200 := by have h1 := HBD.out 4; have h2 := HTL.out; omega
      obtain ⟨hb0, hb02⟩ := hb0
      obtain ⟨hb4, hb42⟩ := hb4
      have HC0 : Hid (CS[K * 5 + a0]? = some (.int .i64 v0)) := Lib.hid (by rw [hCS, cellsC_get _ K a0 _ HCG.out (by omega), C5.cells_at _ _ (by omega), hv0])
      have HC4 : Hid ((CS.set (K * 5 + a0) (.int .i64 (v0 + 1)))[K * 5 + 4]? = some (.int .i64 v4)) := Lib.hid (by rw [List.getElem?_set_ne (by omega), hCS, cellsC_get _ K 4 _ HCG.out (by omega), C5.cells_at _ _ (by omega), hv4])
      have HON : Hid (cellsC (cntsL n (ts.take (j + 1))) = if yb = true then (CS.set (K * 5 + a0) (.int .i64 (v0 + 1))).set (K * 5 + 4) (.int .i64 (v4 + 1)) else CS.set (K * 5 + a0) (.int .i64 (v0 + 1))) := Lib.hid (by rw [HTK.out, HSN.out, cells_on HCG.out ha4 ha0.symm, ← hCS, ← hv0, ← hv4])
      have HA0 := Lib.hid ha0
      rw [← hCS] at HAO
      clear ha0 hCS hv0 hv4
      have hgl := (HAO.out.lt g rfl).2
      have HGB : Hid ((w.alloc (.cells #[.int .i64 (n : Int), .int .i64 cs, .int .i64 cy, .int .i64 cb] 42)).heap.size ≤ g) := Lib.hid (by simpa using hgb)
      have HGM : Hid ((w.alloc (.cells #[.int .i64 (n : Int), .int .i64 cs, .int .i64 cy, .int .i64 cb] 42)).heap.size ≤ w.heap.size + 1 + l.size + 1 ∧ w.heap.size + 1 + l.size + 1 ≠ g ∧ w.heap.size + 1 + l.size + 1 ≠ w.heap.size + 1 + l.size) := Lib.hid (by simp at hgl; refine ⟨by simp; omega, by omega, by omega⟩)
      have HNE : Hid (g ≠ w.heap.size + 1 + l.size) := Lib.hid (by simp at hgl; omega)
      have HS00 := Lib.hid (st_mk (W0 := (w.alloc (.cells #[.int .i64 (n : Int), .int .i64 cs, .int .i64 cy, .int .i64 cb] 42))) (tE := 58) (bx := w.heap.size + 1 + l.size) (a := (K : Int)) (k := yk) (c := ya) (v := yv) (u := yu) (b := yb) (by simp) HAO.out)
      clear hgl
      go_cut [47] (fun c47 wx => MidC (w.alloc (.cells #[.int .i64 (n : Int), .int .i64 cs, .int .i64 cy, .int .i64 cb] 42)) g (w.heap.size + 1 + l.size) n (K * 5) yk yb CS c47 wx)
      case first => as_aux_lemma =>
        refine wp_region_any (by kernel_rfl) ?_
        try (change wpAny _ _ _ _ _ _ _ (World.drew _))
        refine wpAny_take (i := 1) (v := ?v1z1) rfl (by kernel_rfl) (by kernel_rfl) (by kernel_rfl) (fun _ _ _ h => h) (Or.inl ⟨by rfl, ?y1z1⟩) ?r1z1
        case y1z1 => intro w; go_simp; with_reducible rfl
        try simp only [Act.put, List.getElem_toArray, List.getElem_cons_succ, List.getElem_cons_zero, List.setIfInBounds_toArray, List.set_cons_zero, List.set_cons_succ]
        refine wpAny_take (i := 2) (v := ?v2z2) rfl (by kernel_rfl) (by kernel_rfl) (by kernel_rfl) (fun _ _ _ h => h) (Or.inl ⟨by rfl, ?y2z2⟩) ?r2z2
        case y2z2 => intro w; go_simp; with_reducible rfl
        try simp only [Act.put, List.getElem_toArray, List.getElem_cons_succ, List.getElem_cons_zero, List.setIfInBounds_toArray, List.set_cons_zero, List.set_cons_succ]
        refine wpAny_take (i := 3) (v := ?v3z3) rfl (by kernel_rfl) (by kernel_rfl) (by kernel_rfl) (fun _ _ _ h => h) (Or.inl ⟨by rfl, ?y3z3⟩) ?r3z3
        case y3z3 => intro w; go_simp; with_reducible rfl
        try simp only [Act.put, List.getElem_toArray, List.getElem_cons_succ, List.getElem_cons_zero, List.setIfInBounds_toArray, List.set_cons_zero, List.set_cons_succ]
        refine wpAny_take (i := 5) (v := ?v5z4) rfl (by kernel_rfl) (by kernel_rfl) (by kernel_rfl) (fun _ _ _ h => h) (Or.inl ⟨by rfl, ?y5z4⟩) ?r5z4
        case y5z4 => intro w; go_simp; with_reducible rfl
        try simp only [Act.put, List.getElem_toArray, List.getElem_cons_succ, List.getElem_cons_zero, List.setIfInBounds_toArray, List.set_cons_zero, List.set_cons_succ]
        refine wpAny_take (i := 6) (v := ?v6z5) rfl (by kernel_rfl) (by kernel_rfl) (by kernel_rfl) (fun _ _ _ h => h) (Or.inl ⟨by rfl, ?y6z5⟩) ?r6z5
        case y6z5 => intro w; go_simp; with_reducible rfl
        try simp only [Act.put, List.getElem_toArray, List.getElem_cons_succ, List.getElem_cons_zero, List.setIfInBounds_toArray, List.set_cons_zero, List.set_cons_succ]
        refine wpAny_take (i := 7) (v := ?v7z6) rfl (by kernel_rfl) (by kernel_rfl) (by kernel_rfl) (fun _ _ _ h => h) (Or.inl ⟨by rfl, ?y7z6⟩) ?r7z6
        case y7z6 => intro w; go_simp; with_reducible rfl
        try simp only [Act.put, List.getElem_toArray, List.getElem_cons_succ, List.getElem_cons_zero, List.setIfInBounds_toArray, List.set_cons_zero, List.set_cons_succ]
        refine wpAny_take (i := 9) (v := ?v9z7) rfl (by kernel_rfl) (by kernel_rfl) (by kernel_rfl) (fun _ _ _ h => h) (Or.inl ⟨by rfl, ?y9z7⟩) ?r9z7
        case y9z7 => intro w; go_simp; with_reducible rfl
        try simp only [Act.put, List.getElem_toArray, List.getElem_cons_succ, List.getElem_cons_zero, List.setIfInBounds_toArray, List.set_cons_zero, List.set_cons_succ]
        refine wpAny_take (i := 10) (v := ?v10z8) rfl (by kernel_rfl) (by kernel_rfl) (by kernel_rfl) (fun _ _ _ h => h) (Or.inl ⟨by rfl, ?y10z8⟩) ?r10z8
        case y10z8 => intro w; go_simp; with_reducible rfl
        try simp only [Act.put, List.getElem_toArray, List.getElem_cons_succ, List.getElem_cons_zero, List.setIfInBounds_toArray, List.set_cons_zero, List.set_cons_succ]
        refine wpAny_take (i := 11) (v := ?v11z9) rfl (by kernel_rfl) (by kernel_rfl) (by kernel_rfl) (fun _ _ _ h => h) (Or.inl ⟨by rfl, ?y11z9⟩) ?r11z9
        case y11z9 => intro w; go_simp; with_reducible rfl
        try simp only [Act.put, List.getElem_toArray, List.getElem_cons_succ, List.getElem_cons_zero, List.setIfInBounds_toArray, List.set_cons_zero, List.set_cons_succ]
        refine wpAny_take (i := 13) (v := ?v13z10) rfl (by kernel_rfl) (by kernel_rfl) (by kernel_rfl) (fun _ _ _ h => h) (Or.inl ⟨by rfl, ?y13z10⟩) ?r13z10
        case y13z10 => intro w; go_simp; with_reducible rfl
        try simp only [Act.put, List.getElem_toArray, List.getElem_cons_succ, List.getElem_cons_zero, List.setIfInBounds_toArray, List.set_cons_zero, List.set_cons_succ]
        refine wpAny_take (i := 14) (v := ?v14z11) rfl (by kernel_rfl) (by kernel_rfl) (by kernel_rfl) (fun _ _ _ h => h) (Or.inl ⟨by rfl, ?y14z11⟩) ?r14z11
        case y14z11 => intro w; go_simp; with_reducible rfl
        try simp only [Act.put, List.getElem_toArray, List.getElem_cons_succ, List.getElem_cons_zero, List.setIfInBounds_toArray, List.set_cons_zero, List.set_cons_succ]
        refine wpAny_take (i := 15) (v := ?v15z12) rfl (by kernel_rfl) (by kernel_rfl) (by kernel_rfl) (fun _ _ _ h => h) (Or.inl ⟨by rfl, ?y15z12⟩) ?r15z12
        case y15z12 => intro w; go_simp; with_reducible rfl
        try simp only [Act.put, List.getElem_toArray, List.getElem_cons_succ, List.getElem_cons_zero, List.setIfInBounds_toArray, List.set_cons_zero, List.set_cons_succ]
        have hmm := @run_makeMap Try.prog
        refine wpAny_ready (rs := [0]) (by decide +kernel) (by simp) ?_
        refine AllReady.cons rfl (fun KK hKK => ?_) AllReady.nil
        go_simp
        refine hKK _ _ ?_
        clear hKK KK hmm
        try simp only [Act.put, List.getElem_toArray, List.getElem_cons_succ, List.getElem_cons_zero, List.setIfInBounds_toArray, List.set_cons_zero, List.set_cons_succ]
        have hm0 := Lib.hid (map_mk (w := ((w.alloc (.cells #[.int .i64 (n : Int), .int .i64 cs, .int .i64 cy, .int .i64 cb] 42)).later l d).alloc (.cells #[.int .i64 (K : Int), .int .i64 yk, .int .i64 ya, .int .u64 yv, .int .u64 yu, .bool yb] 58)) (P := Try.prog) (k := 54) (R := PR g) (b := w.heap.size + 1 + l.size + 1) (by simp))
        have hs0 := Lib.hid ((HS00.out.alloc (.map #[] 0)).drew)
        refine wpAny_ready (rs := [4, 8, 12, 16]) (by decide +kernel) (by simp) ?_
        refine AllReady.cons rfl (fun KK hKK => ?_) (AllReady.cons rfl (fun KK hKK => ?_) (AllReady.cons rfl (fun KK hKK => ?_) (AllReady.cons rfl (fun KK hKK => ?_) (AllReady.nil))))
        · refine step_insert rfl _ _ _ rfl g _ 0 _ rfl hm0.out (by unfold maxLen; omega) 1 (by decide) (by decide) (K * 5) rfl rfl ?_
          intro w1 hm1' hgr1
          have hm1 := Lib.hid hm1'
          have hs1 := Lib.hid (hs0.out.kept hgr1 (fun i hi => by injection hi with hi; subst hi; exact HGM.out))
          clear hm1' hgr1
          refine hKK _ _ ?_
          clear hKK KK
          try simp only [Act.put, List.getElem_toArray, List.getElem_cons_succ, List.getElem_cons_zero, List.setIfInBounds_toArray, List.set_cons_zero, List.set_cons_succ]
          refine wpAny_ready (rs := [8, 12, 16]) (by decide +kernel) (by simp) ?_
          refine AllReady.cons rfl (fun KK hKK => ?_) (AllReady.cons rfl (fun KK hKK => ?_) (AllReady.cons rfl (fun KK hKK => ?_) (AllReady.nil)))
          · refine step_insert rfl _ _ _ rfl g _ 1 _ rfl hm1.out (by unfold maxLen; omega) 2 (by decide) (by decide) (K * 5 + 1) rfl rfl ?_
            intro w2 hm2' hgr2
            have hm2 := Lib.hid hm2'
            have hs2 := Lib.hid (hs1.out.kept hgr2 (fun i hi => by injection hi with hi; subst hi; exact HGM.out))
            clear hm2' hgr2
            refine hKK _ _ ?_
            clear hKK KK
            try simp only [Act.put, List.getElem_toArray, List.getElem_cons_succ, List.getElem_cons_zero, List.setIfInBounds_toArray, List.set_cons_zero, List.set_cons_succ]
            refine wpAny_ready (rs := [12, 16]) (by decide +kernel) (by simp) ?_
            refine AllReady.cons rfl (fun KK hKK => ?_) (AllReady.cons rfl (fun KK hKK => ?_) (AllReady.nil))
            · refine step_insert rfl _ _ _ rfl g _ 2 _ rfl hm2.out (by unfold maxLen; omega) 3 (by decide) (by decide) (K * 5 + 2) rfl rfl ?_
              intro w3 hm3' hgr3
              have hm3 := Lib.hid hm3'
              have hs3 := Lib.hid (hs2.out.kept hgr3 (fun i hi => by injection hi with hi; subst hi; exact HGM.out))
              clear hm3' hgr3
              refine hKK _ _ ?_
              clear hKK KK
              try simp only [Act.put, List.getElem_toArray, List.getElem_cons_succ, List.getElem_cons_zero, List.setIfInBounds_toArray, List.set_cons_zero, List.set_cons_succ]
              refine wpAny_ready (rs := [16]) (by decide +kernel) (by simp) ?_
              refine AllReady.cons rfl (fun KK hKK => ?_) (AllReady.nil)
              · refine step_insert rfl _ _ _ rfl g _ 3 _ rfl hm3.out (by unfold maxLen; omega) 4 (by decide) (by decide) (K * 5 + 3) rfl rfl ?_
                intro w4 hm4' hgr4
                have hm4 := Lib.hid hm4'
                have hs4 := Lib.hid (hs3.out.kept hgr4 (fun i hi => by injection hi with hi; subst hi; exact HGM.out))
                clear hm4' hgr4
                refine hKK _ _ ?_
                clear hKK KK
                try simp only [Act.put, List.getElem_toArray, List.getElem_cons_succ, List.getElem_cons_zero, List.setIfInBounds_toArray, List.set_cons_zero, List.set_cons_succ]
                refine wpAny_take (i := 17) (v := ?v17z13) rfl (by kernel_rfl) (by kernel_rfl) (by kernel_rfl) (fun _ _ _ h => h) (Or.inl ⟨by rfl, ?y17z13⟩) ?r17z13
                case y17z13 => intro w; go_simp; with_reducible rfl
                try simp only [Act.put, List.getElem_toArray, List.getElem_cons_succ, List.getElem_cons_zero, List.setIfInBounds_toArray, List.set_cons_zero, List.set_cons_succ]
                refine wpAny_ready (rs := [18]) (by decide +kernel) (by simp) ?_
                refine AllReady.cons rfl (fun KK hKK => ?_) AllReady.nil
                refine step_range rfl _ rfl g _ 4 _ rfl hm4.out ?_
                intro w5 hrg5 hgr5 hsz5
                refine hKK _ _ ?_
                clear hKK KK
                try simp only [Act.put, List.getElem_toArray, List.getElem_cons_succ, List.getElem_cons_zero, List.setIfInBounds_toArray, List.set_cons_zero, List.set_cons_succ]
                refine wpAny_done (by kernel_rfl) ?_ _
                go_wp2_with (fail)
                go_meet
                exact mid_mk (holds_put (holds_put (holds_put (holds_put holds_nil Maps.isMap_empty 1 (K * 5)) (isMap_put Maps.isMap_empty _ _) 2 (K * 5 + 1)) (isMap_put (isMap_put Maps.isMap_empty _ _) _ _) 3 (K * 5 + 2)) (isMap_put (isMap_put (isMap_put Maps.isMap_empty _ _) _ _) _ _) 4 (K * 5 + 3)) (spot_eq _ rfl rfl rfl rfl fun x hx => by (repeat (rw [if_neg (by omega)]))) HGM.out HGB.out hs4.out hrg5 hgr5
            · refine step_insert rfl _ _ _ rfl g _ 2 _ rfl hm2.out (by unfold maxLen; omega) 4 (by decide) (by decide) (K * 5 + 3) rfl rfl ?_
              intro w3 hm3' hgr3
              have hm3 := Lib.hid hm3'
              have hs3 := Lib.hid (hs2.out.kept hgr3 (fun i hi => by injection hi with hi; subst hi; exact HGM.out))
              clear hm3' hgr3
              refine hKK _ _ ?_
              clear hKK KK
              try simp only [Act.put, List.getElem_toArray, List.getElem_cons_succ, List.getElem_cons_zero, List.setIfInBounds_toArray, List.set_cons_zero, List.set_cons_succ]
              refine wpAny_ready (rs := [12]) (by decide +kernel) (by simp) ?_
              refine AllReady.cons rfl (fun KK hKK => ?_) (AllReady.nil)
              · refine step_insert rfl _ _ _ rfl g _ 3 _ rfl hm3.out (by unfold maxLen; omega) 3 (by decide) (by decide) (K * 5 + 2) rfl rfl ?_
                intro w4 hm4' hgr4
                have hm4 := Lib.hid hm4'
                have hs4 := Lib.hid (hs3.out.kept hgr4 (fun i hi => by injection hi with hi; subst hi; exact HGM.out))
                clear hm4' hgr4
                refine hKK _ _ ?_
                clear hKK KK
                try simp only [Act.put, List.getElem_toArray, List.getElem_cons_succ, List.getElem_cons_zero, List.setIfInBounds_toArray, List.set_cons_zero, List.set_cons_succ]
                refine wpAny_take (i := 17) (v := ?v17z14) rfl (by kernel_rfl) (by kernel_rfl) (by kernel_rfl) (fun _ _ _ h => h) (Or.inl ⟨by rfl, ?y17z14⟩) ?r17z14
                case y17z14 => intro w; go_simp; with_reducible rfl
                try simp only [Act.put, List.getElem_toArray, List.getElem_cons_succ, List.getElem_cons_zero, List.setIfInBounds_toArray, List.set_cons_zero, List.set_cons_succ]
                refine wpAny_ready (rs := [18]) (by decide +kernel) (by simp) ?_
                refine AllReady.cons rfl (fun KK hKK => ?_) AllReady.nil
                refine step_range rfl _ rfl g _ 4 _ rfl hm4.out ?_
                intro w5 hrg5 hgr5 hsz5
                refine hKK _ _ ?_
                clear hKK KK
                try simp only [Act.put, List.getElem_toArray, List.getElem_cons_succ, List.getElem_cons_zero, List.setIfInBounds_toArray, List.set_cons_zero, List.set_cons_succ]
                refine wpAny_done (by kernel_rfl) ?_ _
                go_wp2_with (fail)
                go_meet
                exact mid_mk (holds_put (holds_put (holds_put (holds_put holds_nil Maps.isMap_empty 1 (K * 5)) (isMap_put Maps.isMap_empty _ _) 2 (K * 5 + 1)) (isMap_put (isMap_put Maps.isMap_empty _ _) _ _) 4 (K * 5 + 3)) (isMap_put (isMap_put (isMap_put Maps.isMap_empty _ _) _ _) _ _) 3 (K * 5 + 2)) (spot_eq _ rfl rfl rfl rfl fun x hx => by (repeat (rw [if_neg (by omega)]))) HGM.out HGB.out hs4.out hrg5 hgr5
          · refine step_insert rfl _ _ _ rfl g _ 1 _ rfl hm1.out (by unfold maxLen; omega) 3 (by decide) (by decide) (K * 5 + 2) rfl rfl ?_
            intro w2 hm2' hgr2
            have hm2 := Lib.hid hm2'
            have hs2 := Lib.hid (hs1.out.kept hgr2 (fun i hi => by injection hi with hi; subst hi; exact HGM.out))
            clear hm2' hgr2
            refine hKK _ _ ?_
            clear hKK KK
            try simp only [Act.put, List.getElem_toArray, List.getElem_cons_succ, List.getElem_cons_zero, List.setIfInBounds_toArray, List.set_cons_zero, List.set_cons_succ]
            refine wpAny_ready (rs := [8, 16]) (by decide +kernel) (by simp) ?_
            refine AllReady.cons rfl (fun KK hKK => ?_) (AllReady.cons rfl (fun KK hKK => ?_) (AllReady.nil))
            · refine step_insert rfl _ _ _ rfl g _ 2 _ rfl hm2.out (by unfold maxLen; omega) 2 (by decide) (by decide) (K * 5 + 1) rfl rfl ?_
              intro w3 hm3' hgr3
              have hm3 := Lib.hid hm3'
              have hs3 := Lib.hid (hs2.out.kept hgr3 (fun i hi => by injection hi with hi; subst hi; exact HGM.out))
              clear hm3' hgr3
              refine hKK _ _ ?_
              clear hKK KK
              try simp only [Act.put, List.getElem_toArray, List.getElem_cons_succ, List.getElem_cons_zero, List.setIfInBounds_toArray, List.set_cons_zero, List.set_cons_succ]
              refine wpAny_ready (rs := [16]) (by decide +kernel) (by simp) ?_
              refine AllReady.cons rfl (fun KK hKK => ?_) (AllReady.nil)
              · refine step_insert rfl _ _ _ rfl g _ 3 _ rfl hm3.out (by unfold maxLen; omega) 4 (by decide) (by decide) (K * 5 + 3) rfl rfl ?_
                intro w4 hm4' hgr4
                have hm4 := Lib.hid hm4'
                have hs4 := Lib.hid (hs3.out.kept hgr4 (fun i hi => by injection hi with hi; subst hi; exact HGM.out))
                clear hm4' hgr4
                refine hKK _ _ ?_
                clear hKK KK
                try simp only [Act.put, List.getElem_toArray, List.getElem_cons_succ, List.getElem_cons_zero, List.setIfInBounds_toArray, List.set_cons_zero, List.set_cons_succ]
                refine wpAny_take (i := 17) (v := ?v17z15) rfl (by kernel_rfl) (by kernel_rfl) (by kernel_rfl) (fun _ _ _ h => h) (Or.inl ⟨by rfl, ?y17z15⟩) ?r17z15
                case y17z15 => intro w; go_simp; with_reducible rfl
                try simp only [Act.put, List.getElem_toArray, List.getElem_cons_succ, List.getElem_cons_zero, List.setIfInBounds_toArray, List.set_cons_zero, List.set_cons_succ]
                refine wpAny_ready (rs := [18]) (by decide +kernel) (by simp) ?_
                refine AllReady.cons rfl (fun KK hKK => ?_) AllReady.nil
                refine step_range rfl _ rfl g _ 4 _ rfl hm4.out ?_
                intro w5 hrg5 hgr5 hsz5
                refine hKK _ _ ?_
                clear hKK KK
                try simp only [Act.put, List.getElem_toArray, List.getElem_cons_succ, List.getElem_cons_zero, List.setIfInBounds_toArray, List.set_cons_zero, List.set_cons_succ]
                refine wpAny_done (by kernel_rfl) ?_ _
                go_wp2_with (fail)
                go_meet
                exact mid_mk (holds_put (holds_put (holds_put (holds_put holds_nil Maps.isMap_empty 1 (K * 5)) (isMap_put Maps.isMap_empty _ _) 3 (K * 5 + 2)) (isMap_put (isMap_put Maps.isMap_empty _ _) _ _) 2 (K * 5 + 1)) (isMap_put (isMap_put (isMap_put Maps.isMap_empty _ _) _ _) _ _) 4 (K * 5 + 3)) (spot_eq _ rfl rfl rfl rfl fun x hx => by (repeat (rw [if_neg (by omega)]))) HGM.out HGB.out hs4.out hrg5 hgr5
            · refine step_insert rfl _ _ _ rfl g _ 2 _ rfl hm2.out (by unfold maxLen; omega) 4 (by decide) (by decide) (K * 5 + 3) rfl rfl ?_
              intro w3 hm3' hgr3
              have hm3 := Lib.hid hm3'
              have hs3 := Lib.hid (hs2.out.kept hgr3 (fun i hi => by injection hi with hi; subst hi; exact HGM.out))
              clear hm3' hgr3
              refine hKK _ _ ?_
              clear hKK KK
              try simp only [Act.put, List.getElem_toArray, List.getElem_cons_succ, List.getElem_cons_zero, List.setIfInBounds_toArray, List.set_cons_zero, List.set_cons_succ]
              refine wpAny_ready (rs := [8]) (by decide +kernel) (by simp) ?_
              refine AllReady.cons rfl (fun KK hKK => ?_) (AllReady.nil)
              · refine step_insert rfl _ _ _ rfl g _ 3 _ rfl hm3.out (by unfold maxLen; omega) 2 (by decide) (by decide) (K * 5 + 1) rfl rfl ?_
                intro w4 hm4' hgr4
                have hm4 := Lib.hid hm4'
                have hs4 := Lib.hid (hs3.out.kept hgr4 (fun i hi => by injection hi with hi; subst hi; exact HGM.out))
                clear hm4' hgr4
                refine hKK _ _ ?_
                clear hKK KK
                try simp only [Act.put, List.getElem_toArray, List.getElem_cons_succ, List.getElem_cons_zero, List.setIfInBounds_toArray, List.set_cons_zero, List.set_cons_succ]
                refine wpAny_take (i := 17) (v := ?v17z16) rfl (by kernel_rfl) (by kernel_rfl) (by kernel_rfl) (fun _ _ _ h => h) (Or.inl ⟨by rfl, ?y17z16⟩) ?r17z16
                case y17z16 => intro w; go_simp; with_reducible rfl
                try simp only [Act.put, List.getElem_toArray, List.getElem_cons_succ, List.getElem_cons_zero, List.setIfInBounds_toArray, List.set_cons_zero, List.set_cons_succ]
                refine wpAny_ready (rs := [18]) (by decide +kernel) (by simp) ?_
                refine AllReady.cons rfl (fun KK hKK => ?_) AllReady.nil
                refine step_range rfl _ rfl g _ 4 _ rfl hm4.out ?_
                intro w5 hrg5 hgr5 hsz5
                refine hKK _ _ ?_
                clear hKK KK
                try simp only [Act.put, List.getElem_toArray, List.getElem_cons_succ, List.getElem_cons_zero, List.setIfInBounds_toArray, List.set_cons_zero, List.set_cons_succ]
                refine wpAny_done (by kernel_rfl) ?_ _
                go_wp2_with (fail)
                go_meet
                exact mid_mk (holds_put (holds_put (holds_put (holds_put holds_nil Maps.isMap_empty 1 (K * 5)) (isMap_put Maps.isMap_empty _ _) 3 (K * 5 + 2)) (isMap_put (isMap_put Maps.isMap_empty _ _) _ _) 4 (K * 5 + 3)) (isMap_put (isMap_put (isMap_put Maps.isMap_empty _ _) _ _) _ _) 2 (K * 5 + 1)) (spot_eq _ rfl rfl rfl rfl fun x hx => by (repeat (rw [if_neg (by omega)]))) HGM.out HGB.out hs4.out hrg5 hgr5
          · refine step_insert rfl _ _ _ rfl g _ 1 _ rfl hm1.out (by unfold maxLen; omega) 4 (by decide) (by decide) (K * 5 + 3) rfl rfl ?_
            intro w2 hm2' hgr2
            have hm2 := Lib.hid hm2'
            have hs2 := Lib.hid (hs1.out.kept hgr2 (fun i hi => by injection hi with hi; subst hi; exact HGM.out))
            clear hm2' hgr2
            refine hKK _ _ ?_
            clear hKK KK
            try simp only [Act.put, List.getElem_toArray, List.getElem_cons_succ, List.getElem_cons_zero, List.setIfInBounds_toArray, List.set_cons_zero, List.set_cons_succ]
            refine wpAny_ready (rs := [8, 12]) (by decide +kernel) (by simp) ?_
            refine AllReady.cons rfl (fun KK hKK => ?_) (AllReady.cons rfl (fun KK hKK => ?_) (AllReady.nil))
            · refine step_insert rfl _ _ _ rfl g _ 2 _ rfl hm2.out (by unfold maxLen; omega) 2 (by decide) (by decide) (K * 5 + 1) rfl rfl ?_
              intro w3 hm3' hgr3
              have hm3 := Lib.hid hm3'
              have hs3 := Lib.hid (hs2.out.kept hgr3 (fun i hi => by injection hi with hi; subst hi; exact HGM.out))
              clear hm3' hgr3
              refine hKK _ _ ?_
              clear hKK KK
              try simp only [Act.put, List.getElem_toArray, List.getElem_cons_succ, List.getElem_cons_zero, List.setIfInBounds_toArray, List.set_cons_zero, List.set_cons_succ]
              refine wpAny_ready (rs := [12]) (by decide +kernel) (by simp) ?_
              refine AllReady.cons rfl (fun KK hKK => ?_) (AllReady.nil)
              · refine step_insert rfl _ _ _ rfl g _ 3 _ rfl hm3.out (by unfold maxLen; omega) 3 (by decide) (by decide) (K * 5 + 2) rfl rfl ?_
                intro w4 hm4' hgr4
                have hm4 := Lib.hid hm4'
                have hs4 := Lib.hid (hs3.out.kept hgr4 (fun i hi => by injection hi with hi; subst hi; exact HGM.out))
                clear hm4' hgr4
                refine hKK _ _ ?_
                clear hKK KK
                try simp only [Act.put, List.getElem_toArray, List.getElem_cons_succ, List.getElem_cons_zero, List.setIfInBounds_toArray, List.set_cons_zero, List.set_cons_succ]
                refine wpAny_take (i := 17) (v := ?v17z17) rfl (by kernel_rfl) (by kernel_rfl) (by kernel_rfl) (fun _ _ _ h => h) (Or.inl ⟨by rfl, ?y17z17⟩) ?r17z17
                case y17z17 => intro w; go_simp; with_reducible rfl
                try simp only [Act.put, List.getElem_toArray, List.getElem_cons_succ, List.getElem_cons_zero, List.setIfInBounds_toArray, List.set_cons_zero, List.set_cons_succ]
                refine wpAny_ready (rs := [18]) (by decide +kernel) (by simp) ?_
                refine AllReady.cons rfl (fun KK hKK => ?_) AllReady.nil
                refine step_range rfl _ rfl g _ 4 _ rfl hm4.out ?_
                intro w5 hrg5 hgr5 hsz5
                refine hKK _ _ ?_
                clear hKK KK
                try simp only [Act.put, List.getElem_toArray, List.getElem_cons_succ, List.getElem_cons_zero, List.setIfInBounds_toArray, List.set_cons_zero, List.set_cons_succ]
                refine wpAny_done (by kernel_rfl) ?_ _
                go_wp2_with (fail)
                go_meet
                exact mid_mk (holds_put (holds_put (holds_put (holds_put holds_nil Maps.isMap_empty 1 (K * 5)) (isMap_put Maps.isMap_empty _ _) 4 (K * 5 + 3)) (isMap_put (isMap_put Maps.isMap_empty _ _) _ _) 2 (K * 5 + 1)) (isMap_put (isMap_put (isMap_put Maps.isMap_empty _ _) _ _) _ _) 3 (K * 5 + 2)) (spot_eq _ rfl rfl rfl rfl fun x hx => by (repeat (rw [if_neg (by omega)]))) HGM.out HGB.out hs4.out hrg5 hgr5
            · refine step_insert rfl _ _ _ rfl g _ 2 _ rfl hm2.out (by unfold maxLen; omega) 3 (by decide) (by decide) (K * 5 + 2) rfl rfl ?_
              intro w3 hm3' hgr3
              have hm3 := Lib.hid hm3'
              have hs3 := Lib.hid (hs2.out.kept hgr3 (fun i hi => by injection hi with hi; subst hi; exact HGM.out))
              clear hm3' hgr3
              refine hKK _ _ ?_
              clear hKK KK
              try simp only [Act.put, List.getElem_toArray, List.getElem_cons_succ, List.getElem_cons_zero, List.setIfInBounds_toArray, List.set_cons_zero, List.set_cons_succ]
              refine wpAny_ready (rs := [8]) (by decide +kernel) (by simp) ?_
              refine AllReady.cons rfl (fun KK hKK => ?_) (AllReady.nil)
              · refine step_insert rfl _ _ _ rfl g _ 3 _ rfl hm3.out (by unfold maxLen; omega) 2 (by decide) (by decide) (K * 5 + 1) rfl rfl ?_
                intro w4 hm4' hgr4
                have hm4 := Lib.hid hm4'
                have hs4 := Lib.hid (hs3.out.kept hgr4 (fun i hi => by injection hi with hi; subst hi; exact HGM.out))
                clear hm4' hgr4
                refine hKK _ _ ?_
                clear hKK KK
                try simp only [Act.put, List.getElem_toArray, List.getElem_cons_succ, List.getElem_cons_zero, List.setIfInBounds_toArray, List.set_cons_zero, List.set_cons_succ]
                refine wpAny_take (i := 17) (v := ?v17z18) rfl (by kernel_rfl) (by kernel_rfl) (by kernel_rfl) (fun _ _ _ h => h) (Or.inl ⟨by rfl, ?y17z18⟩) ?r17z18
                case y17z18 => intro w; go_simp; with_reducible rfl
                try simp only [Act.put, List.getElem_toArray, List.getElem_cons_succ, List.getElem_cons_zero, List.setIfInBounds_toArray, List.set_cons_zero, List.set_cons_succ]
                refine wpAny_ready (rs := [18]) (by decide +kernel) (by simp) ?_
                refine AllReady.cons rfl (fun KK hKK => ?_) AllReady.nil
                refine step_range rfl _ rfl g _ 4 _ rfl hm4.out ?_
                intro w5 hrg5 hgr5 hsz5
                refine hKK _ _ ?_
                clear hKK KK
                try simp only [Act.put, List.getElem_toArray, List.getElem_cons_succ, List.getElem_cons_zero, List.setIfInBounds_toArray, List.set_cons_zero, List.set_cons_succ]
                refine wpAny_done (by kernel_rfl) ?_ _
                go_wp2_with (fail)
                go_meet
                exact mid_mk (holds_put (holds_put (holds_put (holds_put holds_nil Maps.isMap_empty 1 (K * 5)) (isMap_put Maps.isMap_empty _ _) 4 (K * 5 + 3)) (isMap_put (isMap_put Maps.isMap_empty _ _) _ _) 3 (K * 5 + 2)) (isMap_put (isMap_put (isMap_put Maps.isMap_empty _ _) _ _) _ _) 2 (K * 5 + 1)) (spot_eq _ rfl rfl rfl rfl fun x hx => by (repeat (rw [if_neg (by omega)]))) HGM.out HGB.out hs4.out hrg5 hgr5
        · refine step_insert rfl _ _ _ rfl g _ 0 _ rfl hm0.out (by unfold maxLen; omega) 2 (by decide) (by decide) (K * 5 + 1) rfl rfl ?_
          intro w1 hm1' hgr1
          have hm1 := Lib.hid hm1'
          have hs1 := Lib.hid (hs0.out.kept hgr1 (fun i hi => by injection hi with hi; subst hi; exact HGM.out))
          clear hm1' hgr1
          refine hKK _ _ ?_
          clear hKK KK
          try simp only [Act.put, List.getElem_toArray, List.getElem_cons_succ, List.getElem_cons_zero, List.setIfInBounds_toArray, List.set_cons_zero, List.set_cons_succ]
          refine wpAny_ready (rs := [4, 12, 16]) (by decide +kernel) (by simp) ?_
          refine AllReady.cons rfl (fun KK hKK => ?_) (AllReady.cons rfl (fun KK hKK => ?_) (AllReady.cons rfl (fun KK hKK => ?_) (AllReady.nil)))
          · refine step_insert rfl _ _ _ rfl g _ 1 _ rfl hm1.out (by unfold maxLen; omega) 1 (by decide) (by decide) (K * 5) rfl rfl ?_
            intro w2 hm2' hgr2
            have hm2 := Lib.hid hm2'
            have hs2 := Lib.hid (hs1.out.kept hgr2 (fun i hi => by injection hi with hi; subst hi; exact HGM.out))
            clear hm2' hgr2
            refine hKK _ _ ?_
            clear hKK KK
            try simp only [Act.put, List.getElem_toArray, List.getElem_cons_succ, List.getElem_cons_zero, List.setIfInBounds_toArray, List.set_cons_zero, List.set_cons_succ]
            refine wpAny_ready (rs := [12, 16]) (by decide +kernel) (by simp) ?_
            refine AllReady.cons rfl (fun KK hKK => ?_) (AllReady.cons rfl (fun KK hKK => ?_) (AllReady.nil))
            · refine step_insert rfl _ _ _ rfl g _ 2 _ rfl hm2.out (by unfold maxLen; omega) 3 (by decide) (by decide) (K * 5 + 2) rfl rfl ?_
              intro w3 hm3' hgr3
              have hm3 := Lib.hid hm3'
              have hs3 := Lib.hid (hs2.out.kept hgr3 (fun i hi => by injection hi with hi; subst hi; exact HGM.out))
              clear hm3' hgr3
              refine hKK _ _ ?_
              clear hKK KK
              try simp only [Act.put, List.getElem_toArray, List.getElem_cons_succ, List.getElem_cons_zero, List.setIfInBounds_toArray, List.set_cons_zero, List.set_cons_succ]
              refine wpAny_ready (rs := [16]) (by decide +kernel) (by simp) ?_
              refine AllReady.cons rfl (fun KK hKK => ?_) (AllReady.nil)
              · refine step_insert rfl _ _ _ rfl g _ 3 _ rfl hm3.out (by unfold maxLen; omega) 4 (by decide) (by decide) (K * 5 + 3) rfl rfl ?_
                intro w4 hm4' hgr4
                have hm4 := Lib.hid hm4'
                have hs4 := Lib.hid (hs3.out.kept hgr4 (fun i hi => by injection hi with hi; subst hi; exact HGM.out))
                clear hm4' hgr4
                refine hKK _ _ ?_
                clear hKK KK
                try simp only [Act.put, List.getElem_toArray, List.getElem_cons_succ, List.getElem_cons_zero, List.setIfInBounds_toArray, List.set_cons_zero, List.set_cons_succ]
                refine wpAny_take (i := 17) (v := ?v17z19) rfl (by kernel_rfl) (by kernel_rfl) (by kernel_rfl) (fun _ _ _ h => h) (Or.inl ⟨by rfl, ?y17z19⟩) ?r17z19
                case y17z19 => intro w; go_simp; with_reducible rfl
                try simp only [Act.put, List.getElem_toArray, List.getElem_cons_succ, List.getElem_cons_zero, List.setIfInBounds_toArray, List.set_cons_zero, List.set_cons_succ]
                refine wpAny_ready (rs := [18]) (by decide +kernel) (by simp) ?_
                refine AllReady.cons rfl (fun KK hKK => ?_) AllReady.nil
                refine step_range rfl _ rfl g _ 4 _ rfl hm4.out ?_
                intro w5 hrg5 hgr5 hsz5
                refine hKK _ _ ?_
                clear hKK KK
                try simp only [Act.put, List.getElem_toArray, List.getElem_cons_succ, List.getElem_cons_zero, List.setIfInBounds_toArray, List.set_cons_zero, List.set_cons_succ]
                refine wpAny_done (by kernel_rfl) ?_ _
                go_wp2_with (fail)
                go_meet
                exact mid_mk (holds_put (holds_put (holds_put (holds_put holds_nil Maps.isMap_empty 2 (K * 5 + 1)) (isMap_put Maps.isMap_empty _ _) 1 (K * 5)) (isMap_put (isMap_put Maps.isMap_empty _ _) _ _) 3 (K * 5 + 2)) (isMap_put (isMap_put (isMap_put Maps.isMap_empty _ _) _ _) _ _) 4 (K * 5 + 3)) (spot_eq _ rfl rfl rfl rfl fun x hx => by (repeat (rw [if_neg (by omega)]))) HGM.out HGB.out hs4.out hrg5 hgr5
            · refine step_insert rfl _ _ _ rfl g _ 2 _ rfl hm2.out (by unfold maxLen; omega) 4 (by decide) (by decide) (K * 5 + 3) rfl rfl ?_
              intro w3 hm3' hgr3
              have hm3 := Lib.hid hm3'
              have hs3 := Lib.hid (hs2.out.kept hgr3 (fun i hi => by injection hi with hi; subst hi; exact HGM.out))
              clear hm3' hgr3
              refine hKK _ _ ?_
              clear hKK KK
              try simp only [Act.put, List.getElem_toArray, List.getElem_cons_succ, List.getElem_cons_zero, List.setIfInBounds_toArray, List.set_cons_zero, List.set_cons_succ]
              refine wpAny_ready (rs := [12]) (by decide +kernel) (by simp) ?_
              refine AllReady.cons rfl (fun KK hKK => ?_) (AllReady.nil)
              · refine step_insert rfl _ _ _ rfl g _ 3 _ rfl hm3.out (by unfold maxLen; omega) 3 (by decide) (by decide) (K * 5 + 2) rfl rfl ?_
                intro w4 hm4' hgr4
                have hm4 := Lib.hid hm4'
                have hs4 := Lib.hid (hs3.out.kept hgr4 (fun i hi => by injection hi with hi; subst hi; exact HGM.out))
                clear hm4' hgr4
                refine hKK _ _ ?_
                clear hKK KK
                try simp only [Act.put, List.getElem_toArray, List.getElem_cons_succ, List.getElem_cons_zero, List.setIfInBounds_toArray, List.set_cons_zero, List.set_cons_succ]
                refine wpAny_take (i := 17) (v := ?v17z20) rfl (by kernel_rfl) (by kernel_rfl) (by kernel_rfl) (fun _ _ _ h => h) (Or.inl ⟨by rfl, ?y17z20⟩) ?r17z20
                case y17z20 => intro w; go_simp; with_reducible rfl
                try simp only [Act.put, List.getElem_toArray, List.getElem_cons_succ, List.getElem_cons_zero, List.setIfInBounds_toArray, List.set_cons_zero, List.set_cons_succ]
                refine wpAny_ready (rs := [18]) (by decide +kernel) (by simp) ?_
                refine AllReady.cons rfl (fun KK hKK => ?_) AllReady.nil
                refine step_range rfl _ rfl g _ 4 _ rfl hm4.out ?_
                intro w5 hrg5 hgr5 hsz5
                refine hKK _ _ ?_
                clear hKK KK
                try simp only [Act.put, List.getElem_toArray, List.getElem_cons_succ, List.getElem_cons_zero, List.setIfInBounds_toArray, List.set_cons_zero, List.set_cons_succ]
                refine wpAny_done (by kernel_rfl) ?_ _
                go_wp2_with (fail)
                go_meet
                exact mid_mk (holds_put (holds_put (holds_put (holds_put holds_nil Maps.isMap_empty 2 (K * 5 + 1)) (isMap_put Maps.isMap_empty _ _) 1 (K * 5)) (isMap_put (isMap_put Maps.isMap_empty _ _) _ _) 4 (K * 5 + 3)) (isMap_put (isMap_put (isMap_put Maps.isMap_empty _ _) _ _) _ _) 3 (K * 5 + 2)) (spot_eq _ rfl rfl rfl rfl fun x hx => by (repeat (rw [if_neg (by omega)]))) HGM.out HGB.out hs4.out hrg5 hgr5
          · refine step_insert rfl _ _ _ rfl g _ 1 _ rfl hm1.out (by unfold maxLen; omega) 3 (by decide) (by decide) (K * 5 + 2) rfl rfl ?_
            intro w2 hm2' hgr2
            have hm2 := Lib.hid hm2'
            have hs2 := Lib.hid (hs1.out.kept hgr2 (fun i hi => by injection hi with hi; subst hi; exact HGM.out))
            clear hm2' hgr2
            refine hKK _ _ ?_
            clear hKK KK
            try simp only [Act.put, List.getElem_toArray, List.getElem_cons_succ, List.getElem_cons_zero, List.setIfInBounds_toArray, List.set_cons_zero, List.set_cons_succ]
            refine wpAny_ready (rs := [4, 16]) (by decide +kernel) (by simp) ?_
            refine AllReady.cons rfl (fun KK hKK => ?_) (AllReady.cons rfl (fun KK hKK => ?_) (AllReady.nil))
            · refine step_insert rfl _ _ _ rfl g _ 2 _ rfl hm2.out (by unfold maxLen; omega) 1 (by decide) (by decide) (K * 5) rfl rfl ?_
              intro w3 hm3' hgr3
              have hm3 := Lib.hid hm3'
              have hs3 := Lib.hid (hs2.out.kept hgr3 (fun i hi => by injection hi with hi; subst hi; exact HGM.out))
              clear hm3' hgr3
              refine hKK _ _ ?_
              clear hKK KK
              try simp only [Act.put, List.getElem_toArray, List.getElem_cons_succ, List.getElem_cons_zero, List.setIfInBounds_toArray, List.set_cons_zero, List.set_cons_succ]
              refine wpAny_ready (rs := [16]) (by decide +kernel) (by simp) ?_
              refine AllReady.cons rfl (fun KK hKK => ?_) (AllReady.nil)
              · refine step_insert rfl _ _ _ rfl g _ 3 _ rfl hm3.out (by unfold maxLen; omega) 4 (by decide) (by decide) (K * 5 + 3) rfl rfl ?_
                intro w4 hm4' hgr4
                have hm4 := Lib.hid hm4'
                have hs4 := Lib.hid (hs3.out.kept hgr4 (fun i hi => by injection hi with hi; subst hi; exact HGM.out))
                clear hm4' hgr4
                refine hKK _ _ ?_
                clear hKK KK
                try simp only [Act.put, List.getElem_toArray, List.getElem_cons_succ, List.getElem_cons_zero, List.setIfInBounds_toArray, List.set_cons_zero, List.set_cons_succ]
                refine wpAny_take (i := 17) (v := ?v17z21) rfl (by kernel_rfl) (by kernel_rfl) (by kernel_rfl) (fun _ _ _ h => h) (Or.inl ⟨by rfl, ?y17z21⟩) ?r17z21
                case y17z21 => intro w; go_simp; with_reducible rfl
                try simp only [Act.put, List.getElem_toArray, List.getElem_cons_succ, List.getElem_cons_zero, List.setIfInBounds_toArray, List.set_cons_zero, List.set_cons_succ]
                refine wpAny_ready (rs := [18]) (by decide +kernel) (by simp) ?_
                refine AllReady.cons rfl (fun KK hKK => ?_) AllReady.nil
                refine step_range rfl _ rfl g _ 4 _ rfl hm4.out ?_
                intro w5 hrg5 hgr5 hsz5
                refine hKK _ _ ?_
                clear hKK KK
                try simp only [Act.put, List.getElem_toArray, List.getElem_cons_succ, List.getElem_cons_zero, List.setIfInBounds_toArray, List.set_cons_zero, List.set_cons_succ]
                refine wpAny_done (by kernel_rfl) ?_ _
                go_wp2_with (fail)
                go_meet
                exact mid_mk (holds_put (holds_put (holds_put (holds_put holds_nil Maps.isMap_empty 2 (K * 5 + 1)) (isMap_put Maps.isMap_empty _ _) 3 (K * 5 + 2)) (isMap_put (isMap_put Maps.isMap_empty _ _) _ _) 1 (K * 5)) (isMap_put (isMap_put (isMap_put Maps.isMap_empty _ _) _ _) _ _) 4 (K * 5 + 3)) (spot_eq _ rfl rfl rfl rfl fun x hx => by (repeat (rw [if_neg (by omega)]))) HGM.out HGB.out hs4.out hrg5 hgr5
            · refine step_insert rfl _ _ _ rfl g _ 2 _ rfl hm2.out (by unfold maxLen; omega) 4 (by decide) (by decide) (K * 5 + 3) rfl rfl ?_
              intro w3 hm3' hgr3
              have hm3 := Lib.hid hm3'
              have hs3 := Lib.hid (hs2.out.kept hgr3 (fun i hi => by injection hi with hi; subst hi; exact HGM.out))
              clear hm3' hgr3
              refine hKK _ _ ?_
              clear hKK KK
              try simp only [Act.put, List.getElem_toArray, List.getElem_cons_succ, List.getElem_cons_zero, List.setIfInBounds_toArray, List.set_cons_zero, List.set_cons_succ]
              refine wpAny_ready (rs := [4]) (by decide +kernel) (by simp) ?_
              refine AllReady.cons rfl (fun KK hKK => ?_) (AllReady.nil)
              · refine step_insert rfl _ _ _ rfl g _ 3 _ rfl hm3.out (by unfold maxLen; omega) 1 (by decide) (by decide) (K * 5) rfl rfl ?_
                intro w4 hm4' hgr4
                have hm4 := Lib.hid hm4'
                have hs4 := Lib.hid (hs3.out.kept hgr4 (fun i hi => by injection hi with hi; subst hi; exact HGM.out))
                clear hm4' hgr4
                refine hKK _ _ ?_
                clear hKK KK
                try simp only [Act.put, List.getElem_toArray, List.getElem_cons_succ, List.getElem_cons_zero, List.setIfInBounds_toArray, List.set_cons_zero, List.set_cons_succ]
                refine wpAny_take (i := 17) (v := ?v17z22) rfl (by kernel_rfl) (by kernel_rfl) (by kernel_rfl) (fun _ _ _ h => h) (Or.inl ⟨by rfl, ?y17z22⟩) ?r17z22
                case y17z22 => intro w; go_simp; with_reducible rfl
                try simp only [Act.put, List.getElem_toArray, List.getElem_cons_succ, List.getElem_cons_zero, List.setIfInBounds_toArray, List.set_cons_zero, List.set_cons_succ]
                refine wpAny_ready (rs := [18]) (by decide +kernel) (by simp) ?_
                refine AllReady.cons rfl (fun KK hKK => ?_) AllReady.nil
                refine step_range rfl _ rfl g _ 4 _ rfl hm4.out ?_
                intro w5 hrg5 hgr5 hsz5
                refine hKK _ _ ?_
                clear hKK KK
                try simp only [Act.put, List.getElem_toArray, List.getElem_cons_succ, List.getElem_cons_zero, List.setIfInBounds_toArray, List.set_cons_zero, List.set_cons_succ]
                refine wpAny_done (by kernel_rfl) ?_ _
                go_wp2_with (fail)
                go_meet
                exact mid_mk (holds_put (holds_put (holds_put (holds_put holds_nil Maps.isMap_empty 2 (K * 5 + 1)) (isMap_put Maps.isMap_empty _ _) 3 (K * 5 + 2)) (isMap_put (isMap_put Maps.isMap_empty _ _) _ _) 4 (K * 5 + 3)) (isMap_put (isMap_put (isMap_put Maps.isMap_empty _ _) _ _) _ _) 1 (K * 5)) (spot_eq _ rfl rfl rfl rfl fun x hx => by (repeat (rw [if_neg (by omega)]))) HGM.out HGB.out hs4.out hrg5 hgr5
          · refine step_insert rfl _ _ _ rfl g _ 1 _ rfl hm1.out (by unfold maxLen; omega) 4 (by decide) (by decide) (K * 5 + 3) rfl rfl ?_
            intro w2 hm2' hgr2
            have hm2 := Lib.hid hm2'
            have hs2 := Lib.hid (hs1.out.kept hgr2 (fun i hi => by injection hi with hi; subst hi; exact HGM.out))
            clear hm2' hgr2
            refine hKK _ _ ?_
            clear hKK KK
            try simp only [Act.put, List.getElem_toArray, List.getElem_cons_succ, List.getElem_cons_zero, List.setIfInBounds_toArray, List.set_cons_zero, List.set_cons_succ]
            refine wpAny_ready (rs := [4, 12]) (by decide +kernel) (by simp) ?_
            refine AllReady.cons rfl (fun KK hKK => ?_) (AllReady.cons rfl (fun KK hKK => ?_) (AllReady.nil))
            · refine step_insert rfl _ _ _ rfl g _ 2 _ rfl hm2.out (by unfold maxLen; omega) 1 (by decide) (by decide) (K * 5) rfl rfl ?_
              intro w3 hm3' hgr3
              have hm3 := Lib.hid hm3'
              have hs3 := Lib.hid (hs2.out.kept hgr3 (fun i hi => by injection hi with hi; subst hi; exact HGM.out))
              clear hm3' hgr3
              refine hKK _ _ ?_
              clear hKK KK
              try simp only [Act.put, List.getElem_toArray, List.getElem_cons_succ, List.getElem_cons_zero, List.setIfInBounds_toArray, List.set_cons_zero, List.set_cons_succ]
              refine wpAny_ready (rs := [12]) (by decide +kernel) (by simp) ?_
              refine AllReady.cons rfl (fun KK hKK => ?_) (AllReady.nil)
              · refine step_insert rfl _ _ _ rfl g _ 3 _ rfl hm3.out (by unfold maxLen; omega) 3 (by decide) (by decide) (K * 5 + 2) rfl rfl ?_
                intro w4 hm4' hgr4
                have hm4 := Lib.hid hm4'
                have hs4 := Lib.hid (hs3.out.kept hgr4 (fun i hi => by injection hi with hi; subst hi; exact HGM.out))
                clear hm4' hgr4
                refine hKK _ _ ?_
                clear hKK KK
                try simp only [Act.put, List.getElem_toArray, List.getElem_cons_succ, List.getElem_cons_zero, List.setIfInBounds_toArray, List.set_cons_zero, List.set_cons_succ]
                refine wpAny_take (i := 17) (v := ?v17z23) rfl (by kernel_rfl) (by kernel_rfl) (by kernel_rfl) (fun _ _ _ h => h) (Or.inl ⟨by rfl, ?y17z23⟩) ?r17z23
                case y17z23 => intro w; go_simp; with_reducible rfl
                try simp only [Act.put, List.getElem_toArray, List.getElem_cons_succ, List.getElem_cons_zero, List.setIfInBounds_toArray, List.set_cons_zero, List.set_cons_succ]
                refine wpAny_ready (rs := [18]) (by decide +kernel) (by simp) ?_
                refine AllReady.cons rfl (fun KK hKK => ?_) AllReady.nil
                refine step_range rfl _ rfl g _ 4 _ rfl hm4.out ?_
                intro w5 hrg5 hgr5 hsz5
                refine hKK _ _ ?_
                clear hKK KK
                try simp only [Act.put, List.getElem_toArray, List.getElem_cons_succ, List.getElem_cons_zero, List.setIfInBounds_toArray, List.set_cons_zero, List.set_cons_succ]
                refine wpAny_done (by kernel_rfl) ?_ _
                go_wp2_with (fail)
                go_meet
                exact mid_mk (holds_put (holds_put (holds_put (holds_put holds_nil Maps.isMap_empty 2 (K * 5 + 1)) (isMap_put Maps.isMap_empty _ _) 4 (K * 5 + 3)) (isMap_put (isMap_put Maps.isMap_empty _ _) _ _) 1 (K * 5)) (isMap_put (isMap_put (isMap_put Maps.isMap_empty _ _) _ _) _ _) 3 (K * 5 + 2)) (spot_eq _ rfl rfl rfl rfl fun x hx => by (repeat (rw [if_neg (by omega)]))) HGM.out HGB.out hs4.out hrg5 hgr5
            · refine step_insert rfl _ _ _ rfl g _ 2 _ rfl hm2.out (by unfold maxLen; omega) 3 (by decide) (by decide) (K * 5 + 2) rfl rfl ?_
              intro w3 hm3' hgr3
              have hm3 := Lib.hid hm3'
              have hs3 := Lib.hid (hs2.out.kept hgr3 (fun i hi => by injection hi with hi; subst hi; exact HGM.out))
              clear hm3' hgr3
              refine hKK _ _ ?_
              clear hKK KK
              try simp only [Act.put, List.getElem_toArray, List.getElem_cons_succ, List.getElem_cons_zero, List.setIfInBounds_toArray, List.set_cons_zero, List.set_cons_succ]
              refine wpAny_ready (rs := [4]) (by decide +kernel) (by simp) ?_
              refine AllReady.cons rfl (fun KK hKK => ?_) (AllReady.nil)
              · refine step_insert rfl _ _ _ rfl g _ 3 _ rfl hm3.out (by unfold maxLen; omega) 1 (by decide) (by decide) (K * 5) rfl rfl ?_
                intro w4 hm4' hgr4
                have hm4 := Lib.hid hm4'
                have hs4 := Lib.hid (hs3.out.kept hgr4 (fun i hi => by injection hi with hi; subst hi; exact HGM.out))
                clear hm4' hgr4
                refine hKK _ _ ?_
                clear hKK KK
                try simp only [Act.put, List.getElem_toArray, List.getElem_cons_succ, List.getElem_cons_zero, List.setIfInBounds_toArray, List.set_cons_zero, List.set_cons_succ]
                refine wpAny_take (i := 17) (v := ?v17z24) rfl (by kernel_rfl) (by kernel_rfl) (by kernel_rfl) (fun _ _ _ h => h) (Or.inl ⟨by rfl, ?y17z24⟩) ?r17z24
                case y17z24 => intro w; go_simp; with_reducible rfl
                try simp only [Act.put, List.getElem_toArray, List.getElem_cons_succ, List.getElem_cons_zero, List.setIfInBounds_toArray, List.set_cons_zero, List.set_cons_succ]
                refine wpAny_ready (rs := [18]) (by decide +kernel) (by simp) ?_
                refine AllReady.cons rfl (fun KK hKK => ?_) AllReady.nil
                refine step_range rfl _ rfl g _ 4 _ rfl hm4.out ?_
                intro w5 hrg5 hgr5 hsz5
                refine hKK _ _ ?_
                clear hKK KK
                try simp only [Act.put, List.getElem_toArray, List.getElem_cons_succ, List.getElem_cons_zero, List.setIfInBounds_toArray, List.set_cons_zero, List.set_cons_succ]
                refine wpAny_done (by kernel_rfl) ?_ _
                go_wp2_with (fail)
                go_meet
                exact mid_mk (holds_put (holds_put (holds_put (holds_put holds_nil Maps.isMap_empty 2 (K * 5 + 1)) (isMap_put Maps.isMap_empty _ _) 4 (K * 5 + 3)) (isMap_put (isMap_put Maps.isMap_empty _ _) _ _) 3 (K * 5 + 2)) (isMap_put (isMap_put (isMap_put Maps.isMap_empty _ _) _ _) _ _) 1 (K * 5)) (spot_eq _ rfl rfl rfl rfl fun x hx => by (repeat (rw [if_neg (by omega)]))) HGM.out HGB.out hs4.out hrg5 hgr5
        · refine step_insert rfl _ _ _ rfl g _ 0 _ rfl hm0.out (by unfold maxLen; omega) 3 (by decide) (by decide) (K * 5 + 2) rfl rfl ?_
          intro w1 hm1' hgr1
          have hm1 := Lib.hid hm1'
          have hs1 := Lib.hid (hs0.out.kept hgr1 (fun i hi => by injection hi with hi; subst hi; exact HGM.out))
          clear hm1' hgr1
          refine hKK _ _ ?_
          clear hKK KK
          try simp only [Act.put, List.getElem_toArray, List.getElem_cons_succ, List.getElem_cons_zero, List.setIfInBounds_toArray, List.set_cons_zero, List.set_cons_succ]
          refine wpAny_ready (rs := [4, 8, 16]) (by decide +kernel) (by simp) ?_
          refine AllReady.cons rfl (fun KK hKK => ?_) (AllReady.cons rfl (fun KK hKK => ?_) (AllReady.cons rfl (fun KK hKK => ?_) (AllReady.nil)))
          · refine step_insert rfl _ _ _ rfl g _ 1 _ rfl hm1.out (by unfold maxLen; omega) 1 (by decide) (by decide) (K * 5) rfl rfl ?_
            intro w2 hm2' hgr2
            have hm2 := Lib.hid hm2'
            have hs2 := Lib.hid (hs1.out.kept hgr2 (fun i hi => by injection hi with hi; subst hi; exact HGM.out))
            clear hm2' hgr2
            refine hKK _ _ ?_
            clear hKK KK
            try simp only [Act.put, List.getElem_toArray, List.getElem_cons_succ, List.getElem_cons_zero, List.setIfInBounds_toArray, List.set_cons_zero, List.set_cons_succ]
            refine wpAny_ready (rs := [8, 16]) (by decide +kernel) (by simp) ?_
            refine AllReady.cons rfl (fun KK hKK => ?_) (AllReady.cons rfl (fun KK hKK => ?_) (AllReady.nil))
            · refine step_insert rfl _ _ _ rfl g _ 2 _ rfl hm2.out (by unfold maxLen; omega) 2 (by decide) (by decide) (K * 5 + 1) rfl rfl ?_
              intro w3 hm3' hgr3
              have hm3 := Lib.hid hm3'
              have hs3 := Lib.hid (hs2.out.kept hgr3 (fun i hi => by injection hi with hi; subst hi; exact HGM.out))
              clear hm3' hgr3
              refine hKK _ _ ?_
              clear hKK KK
              try simp only [Act.put, List.getElem_toArray, List.getElem_cons_succ, List.getElem_cons_zero, List.setIfInBounds_toArray, List.set_cons_zero, List.set_cons_succ]
              refine wpAny_ready (rs := [16]) (by decide +kernel) (by simp) ?_
              refine AllReady.cons rfl (fun KK hKK => ?_) (AllReady.nil)
              · refine step_insert rfl _ _ _ rfl g _ 3 _ rfl hm3.out (by unfold maxLen; omega) 4 (by decide) (by decide) (K * 5 + 3) rfl rfl ?_
                intro w4 hm4' hgr4
                have hm4 := Lib.hid hm4'
                have hs4 := Lib.hid (hs3.out.kept hgr4 (fun i hi => by injection hi with hi; subst hi; exact HGM.out))
                clear hm4' hgr4
                refine hKK _ _ ?_
                clear hKK KK
                try simp only [Act.put, List.getElem_toArray, List.getElem_cons_succ, List.getElem_cons_zero, List.setIfInBounds_toArray, List.set_cons_zero, List.set_cons_succ]
                refine wpAny_take (i := 17) (v := ?v17z25) rfl (by kernel_rfl) (by kernel_rfl) (by kernel_rfl) (fun _ _ _ h => h) (Or.inl ⟨by rfl, ?y17z25⟩) ?r17z25
                case y17z25 => intro w; go_simp; with_reducible rfl
                try simp only [Act.put, List.getElem_toArray, List.getElem_cons_succ, List.getElem_cons_zero, List.setIfInBounds_toArray, List.set_cons_zero, List.set_cons_succ]
                refine wpAny_ready (rs := [18]) (by decide +kernel) (by simp) ?_
                refine AllReady.cons rfl (fun KK hKK => ?_) AllReady.nil
                refine step_range rfl _ rfl g _ 4 _ rfl hm4.out ?_
                intro w5 hrg5 hgr5 hsz5
                refine hKK _ _ ?_
                clear hKK KK
                try simp only [Act.put, List.getElem_toArray, List.getElem_cons_succ, List.getElem_cons_zero, List.setIfInBounds_toArray, List.set_cons_zero, List.set_cons_succ]
                refine wpAny_done (by kernel_rfl) ?_ _
                go_wp2_with (fail)
                go_meet
                exact mid_mk (holds_put (holds_put (holds_put (holds_put holds_nil Maps.isMap_empty 3 (K * 5 + 2)) (isMap_put Maps.isMap_empty _ _) 1 (K * 5)) (isMap_put (isMap_put Maps.isMap_empty _ _) _ _) 2 (K * 5 + 1)) (isMap_put (isMap_put (isMap_put Maps.isMap_empty _ _) _ _) _ _) 4 (K * 5 + 3)) (spot_eq _ rfl rfl rfl rfl fun x hx => by (repeat (rw [if_neg (by omega)]))) HGM.out HGB.out hs4.out hrg5 hgr5
            · refine step_insert rfl _ _ _ rfl g _ 2 _ rfl hm2.out (by unfold maxLen; omega) 4 (by decide) (by decide) (K * 5 + 3) rfl rfl ?_
              intro w3 hm3' hgr3
              have hm3 := Lib.hid hm3'
              have hs3 := Lib.hid (hs2.out.kept hgr3 (fun i hi => by injection hi with hi; subst hi; exact HGM.out))
              clear hm3' hgr3
              refine hKK _ _ ?_
              clear hKK KK
              try simp only [Act.put, List.getElem_toArray, List.getElem_cons_succ, List.getElem_cons_zero, List.setIfInBounds_toArray, List.set_cons_zero, List.set_cons_succ]
              refine wpAny_ready (rs := [8]) (by decide +kernel) (by simp) ?_
              refine AllReady.cons rfl (fun KK hKK => ?_) (AllReady.nil)
              · refine step_insert rfl _ _ _ rfl g _ 3 _ rfl hm3.out (by unfold maxLen; omega) 2 (by decide) (by decide) (K * 5 + 1) rfl rfl ?_
                intro w4 hm4' hgr4
                have hm4 := Lib.hid hm4'
                have hs4 := Lib.hid (hs3.out.kept hgr4 (fun i hi => by injection hi with hi; subst hi; exact HGM.out))
                clear hm4' hgr4
                refine hKK _ _ ?_
                clear hKK KK
                try simp only [Act.put, List.getElem_toArray, List.getElem_cons_succ, List.getElem_cons_zero, List.setIfInBounds_toArray, List.set_cons_zero, List.set_cons_succ]
                refine wpAny_take (i := 17) (v := ?v17z26) rfl (by kernel_rfl) (by kernel_rfl) (by kernel_rfl) (fun _ _ _ h => h) (Or.inl ⟨by rfl, ?y17z26⟩) ?r17z26
                case y17z26 => intro w; go_simp; with_reducible rfl
                try simp only [Act.put, List.getElem_toArray, List.getElem_cons_succ, List.getElem_cons_zero, List.setIfInBounds_toArray, List.set_cons_zero, List.set_cons_succ]
                refine wpAny_ready (rs := [18]) (by decide +kernel) (by simp) ?_
                refine AllReady.cons rfl (fun KK hKK => ?_) AllReady.nil
                refine step_range rfl _ rfl g _ 4 _ rfl hm4.out ?_
                intro w5 hrg5 hgr5 hsz5
                refine hKK _ _ ?_
                clear hKK KK
                try simp only [Act.put, List.getElem_toArray, List.getElem_cons_succ, List.getElem_cons_zero, List.setIfInBounds_toArray, List.set_cons_zero, List.set_cons_succ]
                refine wpAny_done (by kernel_rfl) ?_ _
                go_wp2_with (fail)
                go_meet
                exact mid_mk (holds_put (holds_put (holds_put (holds_put holds_nil Maps.isMap_empty 3 (K * 5 + 2)) (isMap_put Maps.isMap_empty _ _) 1 (K * 5)) (isMap_put (isMap_put Maps.isMap_empty _ _) _ _) 4 (K * 5 + 3)) (isMap_put (isMap_put (isMap_put Maps.isMap_empty _ _) _ _) _ _) 2 (K * 5 + 1)) (spot_eq _ rfl rfl rfl rfl fun x hx => by (repeat (rw [if_neg (by omega)]))) HGM.out HGB.out hs4.out hrg5 hgr5
          · refine step_insert rfl _ _ _ rfl g _ 1 _ rfl hm1.out (by unfold maxLen; omega) 2 (by decide) (by decide) (K * 5 + 1) rfl rfl ?_
            intro w2 hm2' hgr2
            have hm2 := Lib.hid hm2'
            have hs2 := Lib.hid (hs1.out.kept hgr2 (fun i hi => by injection hi with hi; subst hi; exact HGM.out))
            clear hm2' hgr2
            refine hKK _ _ ?_
            clear hKK KK
            try simp only [Act.put, List.getElem_toArray, List.getElem_cons_succ, List.getElem_cons_zero, List.setIfInBounds_toArray, List.set_cons_zero, List.set_cons_succ]
            refine wpAny_ready (rs := [4, 16]) (by decide +kernel) (by simp) ?_
            refine AllReady.cons rfl (fun KK hKK => ?_) (AllReady.cons rfl (fun KK hKK => ?_) (AllReady.nil))
            · refine step_insert rfl _ _ _ rfl g _ 2 _ rfl hm2.out (by unfold maxLen; omega) 1 (by decide) (by decide) (K * 5) rfl rfl ?_
              intro w3 hm3' hgr3
              have hm3 := Lib.hid hm3'
              have hs3 := Lib.hid (hs2.out.kept hgr3 (fun i hi => by injection hi with hi; subst hi; exact HGM.out))
              clear hm3' hgr3
              refine hKK _ _ ?_
              clear hKK KK
              try simp only [Act.put, List.getElem_toArray, List.getElem_cons_succ, List.getElem_cons_zero, List.setIfInBounds_toArray, List.set_cons_zero, List.set_cons_succ]
              refine wpAny_ready (rs := [16]) (by decide +kernel) (by simp) ?_
              refine AllReady.cons rfl (fun KK hKK => ?_) (AllReady.nil)
              · refine step_insert rfl _ _ _ rfl g _ 3 _ rfl hm3.out (by unfold maxLen; omega) 4 (by decide) (by decide) (K * 5 + 3) rfl rfl ?_
                intro w4 hm4' hgr4
                have hm4 := Lib.hid hm4'
                have hs4 := Lib.hid (hs3.out.kept hgr4 (fun i hi => by injection hi with hi; subst hi; exact HGM.out))
                clear hm4' hgr4
                refine hKK _ _ ?_
                clear hKK KK
                try simp only [Act.put, List.getElem_toArray, List.getElem_cons_succ, List.getElem_cons_zero, List.setIfInBounds_toArray, List.set_cons_zero, List.set_cons_succ]
                refine wpAny_take (i := 17) (v := ?v17z27) rfl (by kernel_rfl) (by kernel_rfl) (by kernel_rfl) (fun _ _ _ h => h) (Or.inl ⟨by rfl, ?y17z27⟩) ?r17z27
                case y17z27 => intro w; go_simp; with_reducible rfl
                try simp only [Act.put, List.getElem_toArray, List.getElem_cons_succ, List.getElem_cons_zero, List.setIfInBounds_toArray, List.set_cons_zero, List.set_cons_succ]
                refine wpAny_ready (rs := [18]) (by decide +kernel) (by simp) ?_
                refine AllReady.cons rfl (fun KK hKK => ?_) AllReady.nil
                refine step_range rfl _ rfl g _ 4 _ rfl hm4.out ?_
                intro w5 hrg5 hgr5 hsz5
                refine hKK _ _ ?_
                clear hKK KK
                try simp only [Act.put, List.getElem_toArray, List.getElem_cons_succ, List.getElem_cons_zero, List.setIfInBounds_toArray, List.set_cons_zero, List.set_cons_succ]
                refine wpAny_done (by kernel_rfl) ?_ _
                go_wp2_with (fail)
                go_meet
                exact mid_mk (holds_put (holds_put (holds_put (holds_put holds_nil Maps.isMap_empty 3 (K * 5 + 2)) (isMap_put Maps.isMap_empty _ _) 2 (K * 5 + 1)) (isMap_put (isMap_put Maps.isMap_empty _ _) _ _) 1 (K * 5)) (isMap_put (isMap_put (isMap_put Maps.isMap_empty _ _) _ _) _ _) 4 (K * 5 + 3)) (spot_eq _ rfl rfl rfl rfl fun x hx => by (repeat (rw [if_neg (by omega)]))) HGM.out HGB.out hs4.out hrg5 hgr5
            · refine step_insert rfl _ _ _ rfl g _ 2 _ rfl hm2.out (by unfold maxLen; omega) 4 (by decide) (by decide) (K * 5 + 3) rfl rfl ?_
              intro w3 hm3' hgr3
              have hm3 := Lib.hid hm3'
              have hs3 := Lib.hid (hs2.out.kept hgr3 (fun i hi => by injection hi with hi; subst hi; exact HGM.out))
              clear hm3' hgr3
              refine hKK _ _ ?_
              clear hKK KK
              try simp only [Act.put, List.getElem_toArray, List.getElem_cons_succ, List.getElem_cons_zero, List.setIfInBounds_toArray, List.set_cons_zero, List.set_cons_succ]
              refine wpAny_ready (rs := [4]) (by decide +kernel) (by simp) ?_
              refine AllReady.cons rfl (fun KK hKK => ?_) (AllReady.nil)
              · refine step_insert rfl _ _ _ rfl g _ 3 _ rfl hm3.out (by unfold maxLen; omega) 1 (by decide) (by decide) (K * 5) rfl rfl ?_
                intro w4 hm4' hgr4
                have hm4 := Lib.hid hm4'
                have hs4 := Lib.hid (hs3.out.kept hgr4 (fun i hi => by injection hi with hi; subst hi; exact HGM.out))
                clear hm4' hgr4
                refine hKK _ _ ?_
                clear hKK KK
                try simp only [Act.put, List.getElem_toArray, List.getElem_cons_succ, List.getElem_cons_zero, List.setIfInBounds_toArray, List.set_cons_zero, List.set_cons_succ]
                refine wpAny_take (i := 17) (v := ?v17z28) rfl (by kernel_rfl) (by kernel_rfl) (by kernel_rfl) (fun _ _ _ h => h) (Or.inl ⟨by rfl, ?y17z28⟩) ?r17z28
                case y17z28 => intro w; go_simp; with_reducible rfl
                try simp only [Act.put, List.getElem_toArray, List.getElem_cons_succ, List.getElem_cons_zero, List.setIfInBounds_toArray, List.set_cons_zero, List.set_cons_succ]
                refine wpAny_ready (rs := [18]) (by decide +kernel) (by simp) ?_
                refine AllReady.cons rfl (fun KK hKK => ?_) AllReady.nil
                refine step_range rfl _ rfl g _ 4 _ rfl hm4.out ?_
                intro w5 hrg5 hgr5 hsz5
                refine hKK _ _ ?_
                clear hKK KK
                try simp only [Act.put, List.getElem_toArray, List.getElem_cons_succ, List.getElem_cons_zero, List.setIfInBounds_toArray, List.set_cons_zero, List.set_cons_succ]
                refine wpAny_done (by kernel_rfl) ?_ _
                go_wp2_with (fail)
                go_meet
                exact mid_mk (holds_put (holds_put (holds_put (holds_put holds_nil Maps.isMap_empty 3 (K * 5 + 2)) (isMap_put Maps.isMap_empty _ _) 2 (K * 5 + 1)) (isMap_put (isMap_put Maps.isMap_empty _ _) _ _) 4 (K * 5 + 3)) (isMap_put (isMap_put (isMap_put Maps.isMap_empty _ _) _ _) _ _) 1 (K * 5)) (spot_eq _ rfl rfl rfl rfl fun x hx => by (repeat (rw [if_neg (by omega)]))) HGM.out HGB.out hs4.out hrg5 hgr5
          · refine step_insert rfl _ _ _ rfl g _ 1 _ rfl hm1.out (by unfold maxLen; omega) 4 (by decide) (by decide) (K * 5 + 3) rfl rfl ?_
            intro w2 hm2' hgr2
            have hm2 := Lib.hid hm2'
            have hs2 := Lib.hid (hs1.out.kept hgr2 (fun i hi => by injection hi with hi; subst hi; exact HGM.out))
            clear hm2' hgr2
            refine hKK _ _ ?_
            clear hKK KK
            try simp only [Act.put, List.getElem_toArray, List.getElem_cons_succ, List.getElem_cons_zero, List.setIfInBounds_toArray, List.set_cons_zero, List.set_cons_succ]
            refine wpAny_ready (rs := [4, 8]) (by decide +kernel) (by simp) ?_
            refine AllReady.cons rfl (fun KK hKK => ?_) (AllReady.cons rfl (fun KK hKK => ?_) (AllReady.nil))
            · refine step_insert rfl _ _ _ rfl g _ 2 _ rfl hm2.out (by unfold maxLen; omega) 1 (by decide) (by decide) (K * 5) rfl rfl ?_
              intro w3 hm3' hgr3
              have hm3 := Lib.hid hm3'
              have hs3 := Lib.hid (hs2.out.kept hgr3 (fun i hi => by injection hi with hi; subst hi; exact HGM.out))
              clear hm3' hgr3
              refine hKK _ _ ?_
              clear hKK KK
              try simp only [Act.put, List.getElem_toArray, List.getElem_cons_succ, List.getElem_cons_zero, List.setIfInBounds_toArray, List.set_cons_zero, List.set_cons_succ]
              refine wpAny_ready (rs := [8]) (by decide +kernel) (by simp) ?_
              refine AllReady.cons rfl (fun KK hKK => ?_) (AllReady.nil)
              · refine step_insert rfl _ _ _ rfl g _ 3 _ rfl hm3.out (by unfold maxLen; omega) 2 (by decide) (by decide) (K * 5 + 1) rfl rfl ?_
                intro w4 hm4' hgr4
                have hm4 := Lib.hid hm4'
                have hs4 := Lib.hid (hs3.out.kept hgr4 (fun i hi => by injection hi with hi; subst hi; exact HGM.out))
                clear hm4' hgr4
                refine hKK _ _ ?_
                clear hKK KK
                try simp only [Act.put, List.getElem_toArray, List.getElem_cons_succ, List.getElem_cons_zero, List.setIfInBounds_toArray, List.set_cons_zero, List.set_cons_succ]
                refine wpAny_take (i := 17) (v := ?v17z29) rfl (by kernel_rfl) (by kernel_rfl) (by kernel_rfl) (fun _ _ _ h => h) (Or.inl ⟨by rfl, ?y17z29⟩) ?r17z29
                case y17z29 => intro w; go_simp; with_reducible rfl
                try simp only [Act.put, List.getElem_toArray, List.getElem_cons_succ, List.getElem_cons_zero, List.setIfInBounds_toArray, List.set_cons_zero, List.set_cons_succ]
                refine wpAny_ready (rs := [18]) (by decide +kernel) (by simp) ?_
                refine AllReady.cons rfl (fun KK hKK => ?_) AllReady.nil
                refine step_range rfl _ rfl g _ 4 _ rfl hm4.out ?_
                intro w5 hrg5 hgr5 hsz5
                refine hKK _ _ ?_
                clear hKK KK
                try simp only [Act.put, List.getElem_toArray, List.getElem_cons_succ, List.getElem_cons_zero, List.setIfInBounds_toArray, List.set_cons_zero, List.set_cons_succ]
                refine wpAny_done (by kernel_rfl) ?_ _
                go_wp2_with (fail)
                go_meet
                exact mid_mk (holds_put (holds_put (holds_put (holds_put holds_nil Maps.isMap_empty 3 (K * 5 + 2)) (isMap_put Maps.isMap_empty _ _) 4 (K * 5 + 3)) (isMap_put (isMap_put Maps.isMap_empty _ _) _ _) 1 (K * 5)) (isMap_put (isMap_put (isMap_put Maps.isMap_empty _ _) _ _) _ _) 2 (K * 5 + 1)) (spot_eq _ rfl rfl rfl rfl fun x hx => by (repeat (rw [if_neg (by omega)]))) HGM.out HGB.out hs4.out hrg5 hgr5
            · refine step_insert rfl _ _ _ rfl g _ 2 _ rfl hm2.out (by unfold maxLen; omega) 2 (by decide) (by decide) (K * 5 + 1) rfl rfl ?_
              intro w3 hm3' hgr3
              have hm3 := Lib.hid hm3'
              have hs3 := Lib.hid (hs2.out.kept hgr3 (fun i hi => by injection hi with hi; subst hi; exact HGM.out))
              clear hm3' hgr3
              refine hKK _ _ ?_
              clear hKK KK
              try simp only [Act.put, List.getElem_toArray, List.getElem_cons_succ, List.getElem_cons_zero, List.setIfInBounds_toArray, List.set_cons_zero, List.set_cons_succ]
              refine wpAny_ready (rs := [4]) (by decide +kernel) (by simp) ?_
              refine AllReady.cons rfl (fun KK hKK => ?_) (AllReady.nil)
              · refine step_insert rfl _ _ _ rfl g _ 3 _ rfl hm3.out (by unfold maxLen; omega) 1 (by decide) (by decide) (K * 5) rfl rfl ?_
                intro w4 hm4' hgr4
                have hm4 := Lib.hid hm4'
                have hs4 := Lib.hid (hs3.out.kept hgr4 (fun i hi => by injection hi with hi; subst hi; exact HGM.out))
                clear hm4' hgr4
                refine hKK _ _ ?_
                clear hKK KK
                try simp only [Act.put, List.getElem_toArray, List.getElem_cons_succ, List.getElem_cons_zero, List.setIfInBounds_toArray, List.set_cons_zero, List.set_cons_succ]
                refine wpAny_take (i := 17) (v := ?v17z30) rfl (by kernel_rfl) (by kernel_rfl) (by kernel_rfl) (fun _ _ _ h => h) (Or.inl ⟨by rfl, ?y17z30⟩) ?r17z30
                case y17z30 => intro w; go_simp; with_reducible rfl
                try simp only [Act.put, List.getElem_toArray, List.getElem_cons_succ, List.getElem_cons_zero, List.setIfInBounds_toArray, List.set_cons_zero, List.set_cons_succ]
                refine wpAny_ready (rs := [18]) (by decide +kernel) (by simp) ?_
                refine AllReady.cons rfl (fun KK hKK => ?_) AllReady.nil
                refine step_range rfl _ rfl g _ 4 _ rfl hm4.out ?_
                intro w5 hrg5 hgr5 hsz5
                refine hKK _ _ ?_
                clear hKK KK
                try simp only [Act.put, List.getElem_toArray, List.getElem_cons_succ, List.getElem_cons_zero, List.setIfInBounds_toArray, List.set_cons_zero, List.set_cons_succ]
                refine wpAny_done (by kernel_rfl) ?_ _
                go_wp2_with (fail)
                go_meet
                exact mid_mk (holds_put (holds_put (holds_put (holds_put holds_nil Maps.isMap_empty 3 (K * 5 + 2)) (isMap_put Maps.isMap_empty _ _) 4 (K * 5 + 3)) (isMap_put (isMap_put Maps.isMap_empty _ _) _ _) 2 (K * 5 + 1)) (isMap_put (isMap_put (isMap_put Maps.isMap_empty _ _) _ _) _ _) 1 (K * 5)) (spot_eq _ rfl rfl rfl rfl fun x hx => by (repeat (rw [if_neg (by omega)]))) HGM.out HGB.out hs4.out hrg5 hgr5
        · refine step_insert rfl _ _ _ rfl g _ 0 _ rfl hm0.out (by unfold maxLen; omega) 4 (by decide) (by decide) (K * 5 + 3) rfl rfl ?_
          intro w1 hm1' hgr1
          have hm1 := Lib.hid hm1'
          have hs1 := Lib.hid (hs0.out.kept hgr1 (fun i hi => by injection hi with hi; subst hi; exact HGM.out))
          clear hm1' hgr1
          refine hKK _ _ ?_
          clear hKK KK
          try simp only [Act.put, List.getElem_toArray, List.getElem_cons_succ, List.getElem_cons_zero, List.setIfInBounds_toArray, List.set_cons_zero, List.set_cons_succ]
          refine wpAny_ready (rs := [4, 8, 12]) (by decide +kernel) (by simp) ?_
          refine AllReady.cons rfl (fun KK hKK => ?_) (AllReady.cons rfl (fun KK hKK => ?_) (AllReady.cons rfl (fun KK hKK => ?_) (AllReady.nil)))
          · refine step_insert rfl _ _ _ rfl g _ 1 _ rfl hm1.out (by unfold maxLen; omega) 1 (by decide) (by decide) (K * 5) rfl rfl ?_
            intro w2 hm2' hgr2
            have hm2 := Lib.hid hm2'
            have hs2 := Lib.hid (hs1.out.kept hgr2 (fun i hi => by injection hi with hi; subst hi; exact HGM.out))
            clear hm2' hgr2
            refine hKK _ _ ?_
            clear hKK KK
            try simp only [Act.put, List.getElem_toArray, List.getElem_cons_succ, List.getElem_cons_zero, List.setIfInBounds_toArray, List.set_cons_zero, List.set_cons_succ]
            refine wpAny_ready (rs := [8, 12]) (by decide +kernel) (by simp) ?_
            refine AllReady.cons rfl (fun KK hKK => ?_) (AllReady.cons rfl (fun KK hKK => ?_) (AllReady.nil))
            · refine step_insert rfl _ _ _ rfl g _ 2 _ rfl hm2.out (by unfold maxLen; omega) 2 (by decide) (by decide) (K * 5 + 1) rfl rfl ?_
              intro w3 hm3' hgr3
              have hm3 := Lib.hid hm3'
              have hs3 := Lib.hid (hs2.out.kept hgr3 (fun i hi => by injection hi with hi; subst hi; exact HGM.out))
              clear hm3' hgr3
              refine hKK _ _ ?_
              clear hKK KK
              try simp only [Act.put, List.getElem_toArray, List.getElem_cons_succ, List.getElem_cons_zero, List.setIfInBounds_toArray, List.set_cons_zero, List.set_cons_succ]
              refine wpAny_ready (rs := [12]) (by decide +kernel) (by simp) ?_
              refine AllReady.cons rfl (fun KK hKK => ?_) (AllReady.nil)
              · refine step_insert rfl _ _ _ rfl g _ 3 _ rfl hm3.out (by unfold maxLen; omega) 3 (by decide) (by decide) (K * 5 + 2) rfl rfl ?_
                intro w4 hm4' hgr4
                have hm4 := Lib.hid hm4'
                have hs4 := Lib.hid (hs3.out.kept hgr4 (fun i hi => by injection hi with hi; subst hi; exact HGM.out))
                clear hm4' hgr4
                refine hKK _ _ ?_
                clear hKK KK
                try simp only [Act.put, List.getElem_toArray, List.getElem_cons_succ, List.getElem_cons_zero, List.setIfInBounds_toArray, List.set_cons_zero, List.set_cons_succ]
                refine wpAny_take (i := 17) (v := ?v17z31) rfl (by kernel_rfl) (by kernel_rfl) (by kernel_rfl) (fun _ _ _ h => h) (Or.inl ⟨by rfl, ?y17z31⟩) ?r17z31
                case y17z31 => intro w; go_simp; with_reducible rfl
                try simp only [Act.put, List.getElem_toArray, List.getElem_cons_succ, List.getElem_cons_zero, List.setIfInBounds_toArray, List.set_cons_zero, List.set_cons_succ]
                refine wpAny_ready (rs := [18]) (by decide +kernel) (by simp) ?_
                refine AllReady.cons rfl (fun KK hKK => ?_) AllReady.nil
                refine step_range rfl _ rfl g _ 4 _ rfl hm4.out ?_
                intro w5 hrg5 hgr5 hsz5
                refine hKK _ _ ?_
                clear hKK KK
                try simp only [Act.put, List.getElem_toArray, List.getElem_cons_succ, List.getElem_cons_zero, List.setIfInBounds_toArray, List.set_cons_zero, List.set_cons_succ]
                refine wpAny_done (by kernel_rfl) ?_ _
                go_wp2_with (fail)
                go_meet
                exact mid_mk (holds_put (holds_put (holds_put (holds_put holds_nil Maps.isMap_empty 4 (K * 5 + 3)) (isMap_put Maps.isMap_empty _ _) 1 (K * 5)) (isMap_put (isMap_put Maps.isMap_empty _ _) _ _) 2 (K * 5 + 1)) (isMap_put (isMap_put (isMap_put Maps.isMap_empty _ _) _ _) _ _) 3 (K * 5 + 2)) (spot_eq _ rfl rfl rfl rfl fun x hx => by (repeat (rw [if_neg (by omega)]))) HGM.out HGB.out hs4.out hrg5 hgr5
            · refine step_insert rfl _ _ _ rfl g _ 2 _ rfl hm2.out (by unfold maxLen; omega) 3 (by decide) (by decide) (K * 5 + 2) rfl rfl ?_
              intro w3 hm3' hgr3
              have hm3 := Lib.hid hm3'
              have hs3 := Lib.hid (hs2.out.kept hgr3 (fun i hi => by injection hi with hi; subst hi; exact HGM.out))
              clear hm3' hgr3
              refine hKK _ _ ?_
              clear hKK KK
              try simp only [Act.put, List.getElem_toArray, List.getElem_cons_succ, List.getElem_cons_zero, List.setIfInBounds_toArray, List.set_cons_zero, List.set_cons_succ]
              refine wpAny_ready (rs := [8]) (by decide +kernel) (by simp) ?_
              refine AllReady.cons rfl (fun KK hKK => ?_) (AllReady.nil)
              · refine step_insert rfl _ _ _ rfl g _ 3 _ rfl hm3.out (by unfold maxLen; omega) 2 (by decide) (by decide) (K * 5 + 1) rfl rfl ?_
                intro w4 hm4' hgr4
                have hm4 := Lib.hid hm4'
                have hs4 := Lib.hid (hs3.out.kept hgr4 (fun i hi => by injection hi with hi; subst hi; exact HGM.out))
                clear hm4' hgr4
                refine hKK _ _ ?_
                clear hKK KK
                try simp only [Act.put, List.getElem_toArray, List.getElem_cons_succ, List.getElem_cons_zero, List.setIfInBounds_toArray, List.set_cons_zero, List.set_cons_succ]
                refine wpAny_take (i := 17) (v := ?v17z32) rfl (by kernel_rfl) (by kernel_rfl) (by kernel_rfl) (fun _ _ _ h => h) (Or.inl ⟨by rfl, ?y17z32⟩) ?r17z32
                case y17z32 => intro w; go_simp; with_reducible rfl
                try simp only [Act.put, List.getElem_toArray, List.getElem_cons_succ, List.getElem_cons_zero, List.setIfInBounds_toArray, List.set_cons_zero, List.set_cons_succ]
                refine wpAny_ready (rs := [18]) (by decide +kernel) (by simp) ?_
                refine AllReady.cons rfl (fun KK hKK => ?_) AllReady.nil
                refine step_range rfl _ rfl g _ 4 _ rfl hm4.out ?_
                intro w5 hrg5 hgr5 hsz5
                refine hKK _ _ ?_
                clear hKK KK
                try simp only [Act.put, List.getElem_toArray, List.getElem_cons_succ, List.getElem_cons_zero, List.setIfInBounds_toArray, List.set_cons_zero, List.set_cons_succ]
                refine wpAny_done (by kernel_rfl) ?_ _
                go_wp2_with (fail)
                go_meet
                exact mid_mk (holds_put (holds_put (holds_put (holds_put holds_nil Maps.isMap_empty 4 (K * 5 + 3)) (isMap_put Maps.isMap_empty _ _) 1 (K * 5)) (isMap_put (isMap_put Maps.isMap_empty _ _) _ _) 3 (K * 5 + 2)) (isMap_put (isMap_put (isMap_put Maps.isMap_empty _ _) _ _) _ _) 2 (K * 5 + 1)) (spot_eq _ rfl rfl rfl rfl fun x hx => by (repeat (rw [if_neg (by omega)]))) HGM.out HGB.out hs4.out hrg5 hgr5
          · refine step_insert rfl _ _ _ rfl g _ 1 _ rfl hm1.out (by unfold maxLen; omega) 2 (by decide) (by decide) (K * 5 + 1) rfl rfl ?_
            intro w2 hm2' hgr2
            have hm2 := Lib.hid hm2'
            have hs2 := Lib.hid (hs1.out.kept hgr2 (fun i hi => by injection hi with hi; subst hi; exact HGM.out))
            clear hm2' hgr2
            refine hKK _ _ ?_
            clear hKK KK
            try simp only [Act.put, List.getElem_toArray, List.getElem_cons_succ, List.getElem_cons_zero, List.setIfInBounds_toArray, List.set_cons_zero, List.set_cons_succ]
            refine wpAny_ready (rs := [4, 12]) (by decide +kernel) (by simp) ?_
            refine AllReady.cons rfl (fun KK hKK => ?_) (AllReady.cons rfl (fun KK hKK => ?_) (AllReady.nil))
            · refine step_insert rfl _ _ _ rfl g _ 2 _ rfl hm2.out (by unfold maxLen; omega) 1 (by decide) (by decide) (K * 5) rfl rfl ?_
              intro w3 hm3' hgr3
              have hm3 := Lib.hid hm3'
              have hs3 := Lib.hid (hs2.out.kept hgr3 (fun i hi => by injection hi with hi; subst hi; exact HGM.out))
              clear hm3' hgr3
              refine hKK _ _ ?_
              clear hKK KK
              try simp only [Act.put, List.getElem_toArray, List.getElem_cons_succ, List.getElem_cons_zero, List.setIfInBounds_toArray, List.set_cons_zero, List.set_cons_succ]
              refine wpAny_ready (rs := [12]) (by decide +kernel) (by simp) ?_
              refine AllReady.cons rfl (fun KK hKK => ?_) (AllReady.nil)
              · refine step_insert rfl _ _ _ rfl g _ 3 _ rfl hm3.out (by unfold maxLen; omega) 3 (by decide) (by decide) (K * 5 + 2) rfl rfl ?_
                intro w4 hm4' hgr4
                have hm4 := Lib.hid hm4'
                have hs4 := Lib.hid (hs3.out.kept hgr4 (fun i hi => by injection hi with hi; subst hi; exact HGM.out))
                clear hm4' hgr4
                refine hKK _ _ ?_
                clear hKK KK
                try simp only [Act.put, List.getElem_toArray, List.getElem_cons_succ, List.getElem_cons_zero, List.setIfInBounds_toArray, List.set_cons_zero, List.set_cons_succ]
                refine wpAny_take (i := 17) (v := ?v17z33) rfl (by kernel_rfl) (by kernel_rfl) (by kernel_rfl) (fun _ _ _ h => h) (Or.inl ⟨by rfl, ?y17z33⟩) ?r17z33
                case y17z33 => intro w; go_simp; with_reducible rfl
                try simp only [Act.put, List.getElem_toArray, List.getElem_cons_succ, List.getElem_cons_zero, List.setIfInBounds_toArray, List.set_cons_zero, List.set_cons_succ]
                refine wpAny_ready (rs := [18]) (by decide +kernel) (by simp) ?_
                refine AllReady.cons rfl (fun KK hKK => ?_) AllReady.nil
                refine step_range rfl _ rfl g _ 4 _ rfl hm4.out ?_
                intro w5 hrg5 hgr5 hsz5
                refine hKK _ _ ?_
                clear hKK KK
                try simp only [Act.put, List.getElem_toArray, List.getElem_cons_succ, List.getElem_cons_zero, List.setIfInBounds_toArray, List.set_cons_zero, List.set_cons_succ]
                refine wpAny_done (by kernel_rfl) ?_ _
                go_wp2_with (fail)
                go_meet
                exact mid_mk (holds_put (holds_put (holds_put (holds_put holds_nil Maps.isMap_empty 4 (K * 5 + 3)) (isMap_put Maps.isMap_empty _ _) 2 (K * 5 + 1)) (isMap_put (isMap_put Maps.isMap_empty _ _) _ _) 1 (K * 5)) (isMap_put (isMap_put (isMap_put Maps.isMap_empty _ _) _ _) _ _) 3 (K * 5 + 2)) (spot_eq _ rfl rfl rfl rfl fun x hx => by (repeat (rw [if_neg (by omega)]))) HGM.out HGB.out hs4.out hrg5 hgr5
            · refine step_insert rfl _ _ _ rfl g _ 2 _ rfl hm2.out (by unfold maxLen; omega) 3 (by decide) (by decide) (K * 5 + 2) rfl rfl ?_
              intro w3 hm3' hgr3
              have hm3 := Lib.hid hm3'
              have hs3 := Lib.hid (hs2.out.kept hgr3 (fun i hi => by injection hi with hi; subst hi; exact HGM.out))
              clear hm3' hgr3
              refine hKK _ _ ?_
              clear hKK KK
              try simp only [Act.put, List.getElem_toArray, List.getElem_cons_succ, List.getElem_cons_zero, List.setIfInBounds_toArray, List.set_cons_zero, List.set_cons_succ]
              refine wpAny_ready (rs := [4]) (by decide +kernel) (by simp) ?_
              refine AllReady.cons rfl (fun KK hKK => ?_) (AllReady.nil)
              · refine step_insert rfl _ _ _ rfl g _ 3 _ rfl hm3.out (by unfold maxLen; omega) 1 (by decide) (by decide) (K * 5) rfl rfl ?_
                intro w4 hm4' hgr4
                have hm4 := Lib.hid hm4'
                have hs4 := Lib.hid (hs3.out.kept hgr4 (fun i hi => by injection hi with hi; subst hi; exact HGM.out))
                clear hm4' hgr4
                refine hKK _ _ ?_
                clear hKK KK
                try simp only [Act.put, List.getElem_toArray, List.getElem_cons_succ, List.getElem_cons_zero, List.setIfInBounds_toArray, List.set_cons_zero, List.set_cons_succ]
                refine wpAny_take (i := 17) (v := ?v17z34) rfl (by kernel_rfl) (by kernel_rfl) (by kernel_rfl) (fun _ _ _ h => h) (Or.inl ⟨by rfl, ?y17z34⟩) ?r17z34
                case y17z34 => intro w; go_simp; with_reducible rfl
                try simp only [Act.put, List.getElem_toArray, List.getElem_cons_succ, List.getElem_cons_zero, List.setIfInBounds_toArray, List.set_cons_zero, List.set_cons_succ]
                refine wpAny_ready (rs := [18]) (by decide +kernel) (by simp) ?_
                refine AllReady.cons rfl (fun KK hKK => ?_) AllReady.nil
                refine step_range rfl _ rfl g _ 4 _ rfl hm4.out ?_
                intro w5 hrg5 hgr5 hsz5
                refine hKK _ _ ?_
                clear hKK KK
                try simp only [Act.put, List.getElem_toArray, List.getElem_cons_succ, List.getElem_cons_zero, List.setIfInBounds_toArray, List.set_cons_zero, List.set_cons_succ]
                refine wpAny_done (by kernel_rfl) ?_ _
                go_wp2_with (fail)
                go_meet
                exact mid_mk (holds_put (holds_put (holds_put (holds_put holds_nil Maps.isMap_empty 4 (K * 5 + 3)) (isMap_put Maps.isMap_empty _ _) 2 (K * 5 + 1)) (isMap_put (isMap_put Maps.isMap_empty _ _) _ _) 3 (K * 5 + 2)) (isMap_put (isMap_put (isMap_put Maps.isMap_empty _ _) _ _) _ _) 1 (K * 5)) (spot_eq _ rfl rfl rfl rfl fun x hx => by (repeat (rw [if_neg (by omega)]))) HGM.out HGB.out hs4.out hrg5 hgr5
          · refine step_insert rfl _ _ _ rfl g _ 1 _ rfl hm1.out (by unfold maxLen; omega) 3 (by decide) (by decide) (K * 5 + 2) rfl rfl ?_
            intro w2 hm2' hgr2
            have hm2 := Lib.hid hm2'
            have hs2 := Lib.hid (hs1.out.kept hgr2 (fun i hi => by injection hi with hi; subst hi; exact HGM.out))
            clear hm2' hgr2
            refine hKK _ _ ?_
            clear hKK KK
            try simp only [Act.put, List.getElem_toArray, List.getElem_cons_succ, List.getElem_cons_zero, List.setIfInBounds_toArray, List.set_cons_zero, List.set_cons_succ]
            refine wpAny_ready (rs := [4, 8]) (by decide +kernel) (by simp) ?_
            refine AllReady.cons rfl (fun KK hKK => ?_) (AllReady.cons rfl (fun KK hKK => ?_) (AllReady.nil))
            · refine step_insert rfl _ _ _ rfl g _ 2 _ rfl hm2.out (by unfold maxLen; omega) 1 (by decide) (by decide) (K * 5) rfl rfl ?_
              intro w3 hm3' hgr3
              have hm3 := Lib.hid hm3'
              have hs3 := Lib.hid (hs2.out.kept hgr3 (fun i hi => by injection hi with hi; subst hi; exact HGM.out))
              clear hm3' hgr3
              refine hKK _ _ ?_
              clear hKK KK
              try simp only [Act.put, List.getElem_toArray, List.getElem_cons_succ, List.getElem_cons_zero, List.setIfInBounds_toArray, List.set_cons_zero, List.set_cons_succ]
              refine wpAny_ready (rs := [8]) (by decide +kernel) (by simp) ?_
              refine AllReady.cons rfl (fun KK hKK => ?_) (AllReady.nil)
              · refine step_insert rfl _ _ _ rfl g _ 3 _ rfl hm3.out (by unfold maxLen; omega) 2 (by decide) (by decide) (K * 5 + 1) rfl rfl ?_
                intro w4 hm4' hgr4
                have hm4 := Lib.hid hm4'
                have hs4 := Lib.hid (hs3.out.kept hgr4 (fun i hi => by injection hi with hi; subst hi; exact HGM.out))
                clear hm4' hgr4
                refine hKK _ _ ?_
                clear hKK KK
                try simp only [Act.put, List.getElem_toArray, List.getElem_cons_succ, List.getElem_cons_zero, List.setIfInBounds_toArray, List.set_cons_zero, List.set_cons_succ]
                refine wpAny_take (i := 17) (v := ?v17z35) rfl (by kernel_rfl) (by kernel_rfl) (by kernel_rfl) (fun _ _ _ h => h) (Or.inl ⟨by rfl, ?y17z35⟩) ?r17z35
                case y17z35 => intro w; go_simp; with_reducible rfl
                try simp only [Act.put, List.getElem_toArray, List.getElem_cons_succ, List.getElem_cons_zero, List.setIfInBounds_toArray, List.set_cons_zero, List.set_cons_succ]
                refine wpAny_ready (rs := [18]) (by decide +kernel) (by simp) ?_
                refine AllReady.cons rfl (fun KK hKK => ?_) AllReady.nil
                refine step_range rfl _ rfl g _ 4 _ rfl hm4.out ?_
                intro w5 hrg5 hgr5 hsz5
                refine hKK _ _ ?_
                clear hKK KK
                try simp only [Act.put, List.getElem_toArray, List.getElem_cons_succ, List.getElem_cons_zero, List.setIfInBounds_toArray, List.set_cons_zero, List.set_cons_succ]
                refine wpAny_done (by kernel_rfl) ?_ _
                go_wp2_with (fail)
                go_meet
                exact mid_mk (holds_put (holds_put (holds_put (holds_put holds_nil Maps.isMap_empty 4 (K * 5 + 3)) (isMap_put Maps.isMap_empty _ _) 3 (K * 5 + 2)) (isMap_put (isMap_put Maps.isMap_empty _ _) _ _) 1 (K * 5)) (isMap_put (isMap_put (isMap_put Maps.isMap_empty _ _) _ _) _ _) 2 (K * 5 + 1)) (spot_eq _ rfl rfl rfl rfl fun x hx => by (repeat (rw [if_neg (by omega)]))) HGM.out HGB.out hs4.out hrg5 hgr5
            · refine step_insert rfl _ _ _ rfl g _ 2 _ rfl hm2.out (by unfold maxLen; omega) 2 (by decide) (by decide) (K * 5 + 1) rfl rfl ?_
              intro w3 hm3' hgr3
              have hm3 := Lib.hid hm3'
              have hs3 := Lib.hid (hs2.out.kept hgr3 (fun i hi => by injection hi with hi; subst hi; exact HGM.out))
              clear hm3' hgr3
              refine hKK _ _ ?_
              clear hKK KK
              try simp only [Act.put, List.getElem_toArray, List.getElem_cons_succ, List.getElem_cons_zero, List.setIfInBounds_toArray, List.set_cons_zero, List.set_cons_succ]
              refine wpAny_ready (rs := [4]) (by decide +kernel) (by simp) ?_
              refine AllReady.cons rfl (fun KK hKK => ?_) (AllReady.nil)
              · refine step_insert rfl _ _ _ rfl g _ 3 _ rfl hm3.out (by unfold maxLen; omega) 1 (by decide) (by decide) (K * 5) rfl rfl ?_
                intro w4 hm4' hgr4
                have hm4 := Lib.hid hm4'
                have hs4 := Lib.hid (hs3.out.kept hgr4 (fun i hi => by injection hi with hi; subst hi; exact HGM.out))
                clear hm4' hgr4
                refine hKK _ _ ?_
                clear hKK KK
                try simp only [Act.put, List.getElem_toArray, List.getElem_cons_succ, List.getElem_cons_zero, List.setIfInBounds_toArray, List.set_cons_zero, List.set_cons_succ]
                refine wpAny_take (i := 17) (v := ?v17z36) rfl (by kernel_rfl) (by kernel_rfl) (by kernel_rfl) (fun _ _ _ h => h) (Or.inl ⟨by rfl, ?y17z36⟩) ?r17z36
                case y17z36 => intro w; go_simp; with_reducible rfl
                try simp only [Act.put, List.getElem_toArray, List.getElem_cons_succ, List.getElem_cons_zero, List.setIfInBounds_toArray, List.set_cons_zero, List.set_cons_succ]
                refine wpAny_ready (rs := [18]) (by decide +kernel) (by simp) ?_
                refine AllReady.cons rfl (fun KK hKK => ?_) AllReady.nil
                refine step_range rfl _ rfl g _ 4 _ rfl hm4.out ?_
                intro w5 hrg5 hgr5 hsz5
                refine hKK _ _ ?_
                clear hKK KK
                try simp only [Act.put, List.getElem_toArray, List.getElem_cons_succ, List.getElem_cons_zero, List.setIfInBounds_toArray, List.set_cons_zero, List.set_cons_succ]
                refine wpAny_done (by kernel_rfl) ?_ _
                go_wp2_with (fail)
                go_meet
                exact mid_mk (holds_put (holds_put (holds_put (holds_put holds_nil Maps.isMap_empty 4 (K * 5 + 3)) (isMap_put Maps.isMap_empty _ _) 3 (K * 5 + 2)) (isMap_put (isMap_put Maps.isMap_empty _ _) _ _) 2 (K * 5 + 1)) (isMap_put (isMap_put (isMap_put Maps.isMap_empty _ _) _ _) _ _) 1 (K * 5)) (spot_eq _ rfl rfl rfl rfl fun x hx => by (repeat (rw [if_neg (by omega)]))) HGM.out HGB.out hs4.out hrg5 hgr5
      case rest =>
        obtain ⟨gm, r, D, rfl, hD, ⟨hg1, hg2⟩, ⟨n1, n2, n3, n4⟩, hrg, hst⟩ := hcut
        obtain ⟨l5, d5, hwc⟩ := hst.low
        subst hwc
        have hrb : w.heap.size + 1 ≤ r := by simpa using hg2
        have HD := Lib.hid hD
        have HRG0 := Lib.hid hrg
        have HST0 := Lib.hid hst
        have HNR : Hid ((w.alloc (.cells #[.int .i64 (n : Int), .int .i64 cs, .int .i64 cy, .int .i64 cb] 42)).heap.size ≤ r ∧ r ≠ g ∧ r ≠ w.heap.size + 1 + l.size) := Lib.hid ⟨hg2, n3, n4⟩
        have HNM : Hid (g ≠ gm ∧ g ≠ r) := Lib.hid ⟨fun e => n1 e.symm, fun e => n3 e.symm⟩
        have hkB : Maps.has D (.int .i64 yk) = true := by rw [hD.1]; unfold spotF; rw [if_pos hk14]; rfl
        have HKB := Lib.hid hkB
        clear hrg hst hD hg1 hg2 n1 n2 n3 n4 hkB
        go_wp2_with (fail)
        go_loopw [11] (fun _ wr => Inn (w.alloc (.cells #[.int .i64 (n : Int), .int .i64 cs, .int .i64 cy, .int .i64 cb] 42)) g gm r (w.heap.size + 1 + l.size) n (K * 5) yk yb CS (CS.set (K * 5 + a0) (.int .i64 (v0 + 1))) D wr) (fun _ wr => wr.rangeLeft gm r)
        case atStart => exact ⟨Maps.has D, Maps.size D, HRG0.out, by rw [if_pos HKB.out]; exact HST0.out⟩
        case round =>
          clear HRG0 HST0
          obtain ⟨left, cnt, hrg, hst⟩ := hrel
          obtain ⟨l6, d6, hw⟩ := hst.low
          subst hw
          have HRG := Lib.hid hrg
          have HST := Lib.hid hst
          clear hrg hst
          go_wp2_with (at_next; refine next_ptr rfl _ rfl (w.alloc (.cells #[.int .i64 (n : Int), .int .i64 cs, .int .i64 cy, .int .i64 cb] 42)) l6 d6 g gm r 4 D (spotF (K * 5)) left cnt HD.out HNR.out.1 rfl HRG.out (fun hl0 => ?_) (fun x y cnt1 l7 d7 hx hlk hrg1 hlt hgr hsz hen => ?_); all_goals (first | (have HX := Lib.hid hx; have HRG1 := Lib.hid hrg1; have HLK := Lib.hid hlk; have HLT := Lib.hid hlt; have hst1 := HST.out.kept hgr (fun i hi => by injection hi with hi; subst hi; exact HNR.out); have HST1 := Lib.hid hst1; have cx1 := hst1.c1; have mg7 := st_far hst1; clear hx hrg1 hlk hlt hgr hsz hst1; obtain ⟨hxb, hxk⟩ | ⟨hxb, hxk⟩ := eq_dec x yk; (focus (obtain ⟨hy, m7, mf7, HST2⟩ := ptr_facts HST1.out HLK.out hxk.out HX.out HA0.out HC0.out (by omega); obtain ⟨l8, d8, e8, HST8⟩ := st_set HST2.out HGB.out HNE.out y (.int .i64 (v0 + 1)); have HRG8 := Lib.hid (ranges_set HRG1.out (World.ownsRow.stored HST2.out.own y (.int .i64 (v0 + 1))).2 HNM.out.1 HNM.out.2); rw [e8] at HRG8; have HY := Lib.hid hy; clear hy))) | (obtain ⟨m9, mf9, HST9⟩ := done_facts HST.out hl0 HC4.out (by omega); have mg9 := st_far HST9.out; have cx5 := HST.out.c5; obtain ⟨l8, d8, e8, HST8⟩ := st_set HST9.out HGB.out HNE.out (K * 5 + 4) (.int .i64 (v4 + 1)); clear hl0; obtain hyb | hyb : yb = true ∨ yb = false := (by cases yb <;> simp); all_goals (rw [hyb] at cx5; have HYB := Lib.hid hyb; clear hyb))))
          · exact ⟨⟨j + 1, _, _, HJ.out, by go_num, rfl, by rw [HON.out, if_pos HYB.out]; exact HST8.out.own⟩, by simp [intOf]; omega⟩
          · exact ⟨⟨j + 1, _, _, HJ.out, by go_num, rfl, by rw [HON.out, if_neg (by rw [HYB.out]; decide)]; exact HST9.out.own⟩, by simp [intOf]; omega⟩
          · go_roundw
            case rel =>
              have e : (left (.int .i64 yk) && !(Lit.int .i64 yk).sameKey (.int .i64 x)) = false := by rw [hxk.out, WideAt.sameKey_self (a := .int .i64 yk) trivial]; simp
              have h := HST8.out
              rw [HY.out] at h
              refine ⟨_, cnt1, HRG8.out, ?_⟩
              show St _ _ _ _ _ _ _ (if (left (.int .i64 yk) && !(Lit.int .i64 yk).sameKey (.int .i64 x)) = true then _ else _) _
              rw [e]
              exact h
            case measure => rw [HRG8.out.left_eq, HRG.out.left_eq]; exact HLT.out
          · go_roundw
            case rel =>
              have e : (left (.int .i64 yk) && !(Lit.int .i64 yk).sameKey (.int .i64 x)) = left (.int .i64 yk) := by simp [Maps.sameKey_ne (a := .int .i64 yk) (b := .int .i64 x) (fun h => hxk.out (by injection h with _ h; exact h.symm))]
              refine ⟨_, cnt1, HRG1.out, ?_⟩
              show St _ _ _ _ _ _ _ (if (left (.int .i64 yk) && !(Lit.int .i64 yk).sameKey (.int .i64 x)) = true then _ else _) _
              rw [e]
              exact HST1.out
            case measure => rw [HRG1.out.left_eq, HRG.out.left_eq]; exact HLT.out
    · obtain rfl : j = m := by have := HML.out; omega
      have htk : ts.take j = ts := List.take_of_length_le (by rw [HML.out]; exact Nat.le_refl _)
      rw [htk] at hown
      have HL := Lib.hid (own_counts (cntsL_len _ _) hown)
      clear hown
      go_wp2
      go_ret2
      exact ⟨(by repeat (first | exact Below.refl _ _ | apply bs_later | apply bs_alloc | apply bs_drew | apply bs_drewN)), .inl ⟨rfl, some ⟨g, 0, none⟩, n, rfl, Nat.le_refl _, by unfold maxLen; omega, (fun h => nomatch h), HL.out⟩⟩

set_option maxHeartbeats 1000000 in
set_option maxRecDepth 100000 in
theorem counts_any (cn cs cy cb : Int) (ts : List E6) (a : Option Addr) (m c : Nat) (w : World) (hm : ts.length = m) (hm2 : m ≤ maxLen) (hL : EventsAt w a ts) :
    Calls Try.prog 24 #[.agg #[.int .i64 cn, .int .i64 cs, .int .i64 cy, .int .i64 cb], .slice a m c] w (CountsPost cn.toNat (tallyE cn cs cy cb ts) ts w) := by
  by_cases h0 : tallyE cn cs cy cb ts = 0
  · rw [h0]; exact counts_ok cn cs cy cb ts a m c w hm hL h0
  · have PC := fun w h => tally.checked_any cn cs cy cb ts a m c w hm2 hm h
    have HC := Lib.hid PC
    have HT := Lib.hid hL
    have H0 := Lib.hid h0
    generalize tallyE cn cs cy cb ts = E at *
    have hE : (E != 0) = true := by simpa using h0
    clear PC hL hm h0
    go_enter Try.func24, Try.ntmps24
    go_wp2_with (go_at_call 66; refine (HC.out _ (EventsAt.below HT.out (by repeat (first | exact Below.refl _ _ | apply bs_later | apply bs_alloc | apply bs_drew | apply bs_drewN)))).mono ?_; rintro e w1 ⟨rfl, hb1⟩; obtain ⟨l1, d1, rfl⟩ := later_of hb1; clear hb1)
    go_ret2
    exact ⟨(by repeat (first | exact Below.refl _ _ | apply bs_later | apply bs_alloc | apply bs_drew | apply bs_drewN)), .inr ⟨H0.out, rfl⟩⟩
end Go.Proofs.Ytffhfpdmfegcpab.tally
