/- The contract of cache.Lines. -/
import Derived.Test.YtffhfpdmfegcpabCacheFind
import Derived.Test.YtffhfpdmfegcpabProgMerge
namespace Go.Proofs.Ytffhfpdmfegcpab.ways
open Go.ChangeShapes Go.WideShapes Go.ChangeAt Go.RowKit
open Go.Proofs.Ytffhfpdmfegcpab.base Go.Proofs.Ytffhfpdmfegcpab.flat Go.Proofs.Ytffhfpdmfegcpab.table Go.Proofs.Ytffhfpdmfegcpab.prog Go.Proofs.Ytffhfpdmfegcpab.same Go.Proofs.Ytffhfpdmfegcpab.addr
set_option linter.unusedVariables false
set_option linter.unusedSimpArgs false

def hereW (x : W6) : Bool := decide (¬ x.s = 0)
/-- the lines that are there -/
def linesW (rs : List R4) : List W6 := rs.flatMap fun r => r.ways.filter hereW
def cellsW (M : List W6) : List Value := M.flatMap W6.cells
theorem cellsW_snoc (M : List W6) (x : W6) : cellsW (M ++ [x]) = cellsW M ++ x.cells := by simp [cellsW]
theorem cellsW_get : ∀ (M : List W6) (i j : Nat) (x : W6), M[i]? = some x → j < 6 → (cellsW M)[i * 6 + j]? = x.cells[j]?
  | [], i, j, x, h, _ => by simp at h
  | y :: M, 0, j, x, h, hj => by
    obtain rfl : y = x := by simpa using h
    show (y.cells ++ cellsW M)[0 * 6 + j]? = _
    rw [List.getElem?_append_left (by simp [W6.cells]; omega)]
    congr 1
    omega
  | y :: M, i + 1, j, x, h, hj => by
    show (y.cells ++ cellsW M)[(i + 1) * 6 + j]? = _
    rw [List.getElem?_append_right (by simp [W6.cells]; omega)]
    rw [show (i + 1) * 6 + j - y.cells.length = i * 6 + j by simp [W6.cells]; omega]
    exact cellsW_get M i j x (by simpa using h) hj
theorem own_ways {w : World} {base n c : Nat} {e : TypeId} {a : Option Addr} {M : List W6} (hn : M.length = n) (h : w.ownsRow base e 6 (.slice a n c) n (cellsW M)) : WaysAt w a M := by
  subst hn
  cases M with
  | nil => exact .inl rfl
  | cons y M =>
    obtain ⟨g, rfl⟩ : ∃ g, a = some ⟨g, 0, none⟩ := by
      rcases h.2 with ⟨_, h1⟩ | ⟨g, cap, cur, hv, _⟩
      · simp at h1
      · injection hv with hv; exact ⟨g, hv⟩
    refine .inr ⟨g, 0, rfl, fun i r hr => ?_⟩
    rw [List.getElem?_map] at hr
    cases hx : (y :: M)[i]? with
    | none => rw [hx] at hr; cases hr
    | some x =>
      rw [hx] at hr
      obtain rfl := Option.some.inj hr
      refine ⟨rfl, fun j v hj => ?_⟩
      have hj6 : j < 6 := by
        have := (List.getElem?_eq_some_iff.1 hj).1
        simpa [W6.cells] using this
      have hi := (List.getElem?_eq_some_iff.1 hx).1
      rw [Nat.zero_add, World.ownsRow.cellAt h (i * 6 + j) (by omega), cellsW_get _ i j x hx hj6]
      exact hj
theorem info_way : (Try.prog.info? 92).map (fun i => (i.zero, i.size, i.bytes)) = some (some (.agg #[.int .i64 0, .int .i64 0, .int .u64 0, .int .u64 0, .int .u64 0, .int .u64 0]), 6, 48) := by kernel_rfl
theorem six_new {W : World} {a b c d e f : Value} {t : TypeId} {g : Nat} (hg : g = W.heap.size) : ∀ (j : Nat) (u : Value), [a, b, c, d, e, f][j]? = some u → (W.alloc (.cells #[a, b, c, d, e, f] t)).cell? ((⟨g, 0, none⟩ : Addr).add j) = some u := by
  intro j u h
  have hj : j < 6 := (List.getElem?_eq_some_iff.1 h).1
  have e : (⟨g, 0, none⟩ : Addr).add j = ⟨g, j, none⟩ := by unfold Addr.add; split <;> simp_all
  rw [e, World.cell?_alloc_at _ _ _ _ hg]
  simpa using h
theorem linesW_snoc (rs : List R4) (r : R4) : linesW (rs ++ [r]) = linesW rs ++ r.ways.filter hereW := by simp [linesW]
theorem linesW_len (rs : List R4) (h : ∀ r ∈ rs, r.ways.length ≤ 4) : (linesW rs).length ≤ 4 * rs.length := by
  induction rs with
  | nil => simp [linesW]
  | cons r rs ih =>
    have h1 := ih fun r hr => h r (by simp [hr])
    have h2 := h r (by simp)
    have h3 : (r.ways.filter hereW).length ≤ r.ways.length := List.length_filter_le _ _
    have e : linesW (r :: rs) = r.ways.filter hereW ++ linesW rs := by simp [linesW]
    rw [e, List.length_append, List.length_cons]
    omega
theorem own_base {w : World} {b b' size n : Nat} {e : TypeId} {v : Value} {xs : List Value} (h : w.ownsRow b e size v n xs) (hb : b = b') : w.ownsRow b' e size v n xs := hb ▸ h
def LinesPost (rs : List R4) (w : World) (e : Ending) (w' : World) : Prop := ∃ ao co, e = .returned (.tuple #[.slice ao (linesW rs).length co, .int .i64 0]) ∧ ((linesW rs).length ≤ co ∧ co ≤ maxLen) ∧ WaysAt w' ao (linesW rs) ∧ Below w.heap.size w w'
def Rel1 (rs : List R4) (w0 : World) (v i : Value) (wr : World) : Prop :=
  ∃ (k : Nat) (l : Array Obj) (d m : Nat), k ≤ rs.length ∧ i = .int .i64 k ∧ wr = w0.later l d ∧ m = (linesW (rs.take k)).length ∧ (w0.later l d).ownsRow w0.heap.size 92 6 v m (cellsW (linesW (rs.take k)))
def Rel2 (M : List W6) (ws : List W6) (w0 : World) (v i : Value) (wr : World) : Prop :=
  ∃ (k : Nat) (l : Array Obj) (d m : Nat), k ≤ ws.length ∧ i = .int .i64 k ∧ wr = w0.later l d ∧ m = (M ++ (ws.take k).filter hereW).length ∧ (w0.later l d).ownsRow w0.heap.size 92 6 v m (cellsW (M ++ (ws.take k).filter hereW))
theorem filter_snoc (ws : List W6) {k : Nat} {x : W6} (hx : ws[k]? = some x) : (ws.take (k + 1)).filter hereW = (ws.take k).filter hereW ++ if hereW x = true then [x] else [] := by
  rw [List.take_add_one, hx, List.filter_append]
  congr 1
  cases h : hereW x <;> simp [h]
set_option maxHeartbeats 4000000 in
set_option maxRecDepth 100000 in
theorem lines_ok (cn cs cy cb : Int) (rs : List R4) (hrs : ∀ r ∈ rs, r.Ok) (a : Option Addr) (n c : Nat) (w : World) (hn : rs.length = n) (hm : n ≤ maxLen) (hH : CacheAt w a rs) (h0 : cacheE cn cs cy cb rs = 0) :
    Calls Try.prog 40 #[.agg #[.int .i64 cn, .int .i64 cs, .int .i64 cy, .int .i64 cb], .slice a n c] w (LinesPost rs w) := by
  have PC := fun w h => cacheCheck_any cn cs cy cb rs hrs a n c w hn hm h
  rw [h0] at PC
  obtain ⟨hc, hlen, hrow⟩ := cacheE_ok h0
  have hn4 : n ≤ 4 := by have := hc.2.2.2.1; omega
  have hw4 : ∀ r ∈ rs, r.ways.length ≤ 4 := fun r hr => by
    obtain ⟨i, hi⟩ := List.mem_iff_getElem?.1 hr
    have := (rowE_ways (rowF_ok (hrow i r hi)).1).1
    have := hc.2.2.2.2.2.2.1
    omega
  have HC := Lib.hid PC
  have HN := Lib.hid hn
  have HH := Lib.hid hH
  have HW4 := Lib.hid hw4
  obtain ⟨i4, ji, jz0, jz1, jz2⟩ := info_parts info_way
  clear PC h0 hc hlen hrow hn hH hrs hw4 hm
  go_enter Try.func40, Try.ntmps40
  go_wp2_with (go_at_call 72; refine (HC.out _ (CacheAt.below HH.out (by repeat (first | exact Below.refl _ _ | apply bs_later | apply bs_alloc | apply bs_drew | apply bs_drewN)))).mono ?_; rintro e w1 ⟨rfl, hb1⟩; obtain ⟨l1, d1, rfl⟩ := later_of hb1; clear hb1)
  go_loopw [7, 20] (Rel1 rs (w.alloc (.cells #[.int .i64 cn, .int .i64 cs, .int .i64 cy, .int .i64 cb] 42))) (fun _ i _ => n - (intOf i).toNat)
  case atStart => exact ⟨0, _, _, 0, Nat.zero_le _, rfl, rfl, rfl, World.ownsRow_nil _ _ _ _⟩
  case round =>
    obtain ⟨k, l, d, m, hk, rfl, rfl, hmm, hown⟩ := hrel
    by_cases hlt : k < n
    · obtain ⟨r, hr⟩ := get_some (xs := rs) (k := k) (by rw [HN.out]; exact hlt)
      obtain ⟨b, off, rfl⟩ := CacheAt.form HH.out hr
      obtain ⟨p, pc, ⟨e0, e1, e2, e3⟩, q1, q2, q3, q4⟩ := CacheAt.at HH.out hr
      have hin : inB w b := lt_of_cell e0
      have HJ : Hid (k + 1 ≤ rs.length) := Lib.hid (by rw [HN.out]; exact hlt)
      have HLN := Lib.hid (show linesW (rs.take (k + 1)) = linesW (rs.take k) ++ r.ways.filter hereW by rw [List.take_add_one, hr]; exact linesW_snoc _ _)
      have hm16 : (linesW (rs.take k)).length ≤ 16 := by
        have h1 := linesW_len (rs.take k) fun r hr => HW4.out r (List.mem_of_mem_take hr)
        have h2 : (rs.take k).length ≤ 4 := by rw [List.length_take]; omega
        omega
      have hw4 := HW4.out r (List.mem_of_getElem? hr)
      have HQ := Lib.hid q4
      have HO := Lib.hid hown
      have HMM := Lib.hid hmm
      generalize linesW (rs.take k) = M at *
      obtain ⟨ws, x, y, z⟩ := r
      simp only at e0 e1 e2 e3 q1 HQ HLN hw4
      obtain ⟨mw, hmw⟩ : ∃ mw, ws.length = mw := ⟨_, rfl⟩
      have HMW := Lib.hid hmw
      rw [hmw] at e0 q1 hw4
      unfold maxLen at q2
      clear hr hk hmm hown q3 q4 hmw
      go_wp2_with (fail)
      go_loopw [7, 27] (Rel2 M ws (w.alloc (.cells #[.int .i64 cn, .int .i64 cs, .int .i64 cy, .int .i64 cb] 42))) (fun _ i _ => mw - (intOf i).toNat)
      case atStart => exact ⟨0, _, _, m, Nat.zero_le _, rfl, later_alloc _ _ _ _, by rw [List.take_zero, List.filter_nil, List.append_nil]; exact HMM.out, by rw [List.take_zero, List.filter_nil, List.append_nil, ← later_alloc]; exact HO.out.alloc _⟩
      case round =>
        obtain ⟨j, l2, d2, m2, hj, rfl, rfl, hmm2, hown2⟩ := hrel
        obtain ⟨sa, sc, hv⟩ := own_form hown2
        subst hv
        have hm20 : m2 ≤ 20 := by
          rw [hmm2, List.length_append]
          have h1 : ((ws.take j).filter hereW).length ≤ (ws.take j).length := List.length_filter_le _ _
          have h2 : (ws.take j).length ≤ ws.length := by rw [List.length_take]; omega
          have := HMW.out
          omega
        by_cases hlt2 : j < mw
        · obtain ⟨x1, hx⟩ := get_some (xs := ws) (k := j) (by rw [HMW.out]; exact hlt2)
          obtain ⟨b2, off2, rfl⟩ := WaysAt.form HQ.out hx
          obtain ⟨f0, f1, f2, f3, f4, f5⟩ := WaysAt.at HQ.out hx
          have hin2 : inB w b2 := lt_of_cell f0
          have HJ2 : Hid (j + 1 ≤ ws.length) := Lib.hid (by rw [HMW.out]; exact hlt2)
          have HFS := Lib.hid (filter_snoc ws hx)
          have HO2 := Lib.hid hown2
          have HM2 := Lib.hid hmm2
          obtain ⟨xs, xl, xa, xb, xc, xd⟩ := x1
          simp only at f0 f1 f2 f3 f4 f5
          clear hx hj hown2 hmm2
          by_cases hs : xs = 0
          · have HV : Hid (hereW ⟨xs, xl, xa, xb, xc, xd⟩ = false) := Lib.hid (decide_eq_false fun h => h hs)
            have hsb : (xs != 0) = false := by simpa using hs
            clear hs
            go_wp2_with (fail)
            exact ⟨⟨j + 1, _, _, m2, HJ2.out, by go_num, later_alloc _ _ _ _, by rw [HFS.out, if_neg (by rw [HV.out]; decide), List.append_nil]; exact HM2.out, by rw [HFS.out, if_neg (by rw [HV.out]; decide), List.append_nil, ← later_alloc]; exact HO2.out.alloc _⟩, by simp [intOf]; omega⟩
          · have HV : Hid (hereW ⟨xs, xl, xa, xb, xc, xd⟩ = true) := Lib.hid (decide_eq_true hs)
            have hsb : (xs != 0) = true := by simpa using hs
            clear hs
            go_wp2_with (at_builtin; refine wpList_append_own _ rfl _ _ 87 rfl (w.heap.size + 1) 92 i4 _ 6 48 Try.underlying87 ji jz0 jz1 jz2 rfl (by decide) _ _ _ rfl (own_base (((HO2.out.alloc _).alloc _)) (by simp)) ⟨_, 0, none⟩ 1 1 [.int .i64 xs, .int .i64 xl, .int .u64 xa, .int .u64 xb, .int .u64 xc, .int .u64 xd] rfl rfl (six_new (by simp)) (fun u hu => by simp at hu; rcases hu with rfl | rfl | rfl | rfl | rfl | rfl <;> rfl) (by unfold maxLen; omega) (by omega) (by simp; omega) ?_; intro v' w1 hown' hgrow _; have hb := below_grown (W0 := (w.alloc (.cells #[.int .i64 cn, .int .i64 cs, .int .i64 cy, .int .i64 cb] 42))) (by repeat (first | exact Below.refl _ _ | apply bs_later | apply bs_alloc | apply bs_drew | apply bs_drewN)) hgrow (fun g hg => (HO2.out.lt g hg).1); obtain ⟨l6, d6, rfl⟩ := later_of hb; have HO' := Lib.hid hown'; clear hb hgrow hown')
            exact ⟨⟨j + 1, _, _, m2 + 1, HJ2.out, by go_num, rfl, by rw [HFS.out, if_pos HV.out, ← List.append_assoc, List.length_append, ← HM2.out]; rfl, by rw [HFS.out, if_pos HV.out, ← List.append_assoc, cellsW_snoc]; exact own_base HO'.out (by simp)⟩, by simp [intOf]; omega⟩
        · obtain rfl : j = mw := by have := HMW.out; omega
          have htk : ws.take j = ws := List.take_of_length_le (by rw [HMW.out]; exact Nat.le_refl _)
          rw [htk] at hmm2 hown2
          have HO2 := Lib.hid hown2
          have HM2 := Lib.hid hmm2
          clear htk hown2 hmm2 hj
          go_wp2_with (fail)
          exact ⟨⟨k + 1, _, _, m2, HJ.out, by go_num, rfl, by rw [HLN.out]; exact HM2.out, by rw [HLN.out]; exact HO2.out⟩, by simp [intOf]; omega⟩
    · obtain rfl : k = n := by have := HN.out; omega
      have htk : rs.take k = rs := List.take_of_length_le (by rw [HN.out]; exact Nat.le_refl _)
      rw [htk] at hmm hown
      have hm16 : (linesW rs).length ≤ 16 := by
        have h1 := linesW_len rs HW4.out
        have := HN.out
        omega
      obtain ⟨sa, sc, hv⟩ := own_form hown
      subst hv
      subst hmm
      have hcap := own_capsM hown
      have HWA := Lib.hid (own_ways rfl hown)
      clear htk hown
      go_wp2_with (fail)
      go_ret2
      exact ⟨sa, sc, rfl, hcap, HWA.out, (by repeat (first | exact Below.refl _ _ | apply bs_later | apply bs_alloc | apply bs_drew | apply bs_drewN))⟩
set_option maxHeartbeats 1000000 in
set_option maxRecDepth 100000 in
theorem lines_bad (cn cs cy cb : Int) (rs : List R4) (hrs : ∀ r ∈ rs, r.Ok) (a : Option Addr) (n c : Nat) (w : World) (hn : rs.length = n) (hm : n ≤ maxLen) (hH : CacheAt w a rs) (h0 : ¬ cacheE cn cs cy cb rs = 0) :
    Calls Try.prog 40 #[.agg #[.int .i64 cn, .int .i64 cs, .int .i64 cy, .int .i64 cb], .slice a n c] w (Ret (.tuple #[.slice none 0 0, .int .i64 (cacheE cn cs cy cb rs)]) w) := by
  have PC := fun w h => cacheCheck_any cn cs cy cb rs hrs a n c w hn hm h
  have HC := Lib.hid PC
  have HH := Lib.hid hH
  generalize cacheE cn cs cy cb rs = E at *
  have hE : (E != 0) = true := by simpa using h0
  clear PC h0 hn hH hrs
  go_enter Try.func40, Try.ntmps40
  go_wp2_with (go_at_call 72; refine (HC.out _ (CacheAt.below HH.out (by repeat (first | exact Below.refl _ _ | apply bs_later | apply bs_alloc | apply bs_drew | apply bs_drewN)))).mono ?_; rintro e w1 ⟨rfl, hb1⟩; obtain ⟨l1, d1, rfl⟩ := later_of hb1; clear hb1)
  go_ret2
  exact ⟨rfl, (by repeat (first | exact Below.refl _ _ | apply bs_later | apply bs_alloc | apply bs_drew | apply bs_drewN))⟩
end Go.Proofs.Ytffhfpdmfegcpab.ways
