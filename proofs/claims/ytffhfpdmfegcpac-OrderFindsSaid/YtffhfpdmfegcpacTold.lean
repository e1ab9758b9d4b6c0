/- A slice of what was told, that came in: its records; the contracts of order.check and ringdovelaw.toldFault. -/
import Derived.Test.YtffhfpdmfegcpacLists
import Derived.Test.YtffhfpdmfegcpacPlayLaw
import Derived.Test.YtffhfpdmfegcpacRange
import Derived.Test.YtffhfpdmfegcpacRefDeed
namespace Go.Proofs.Ytffhfpdmfegcpac.told
open Go.ChangeShapes Go.WideShapes Go.ChangeAt Go.RowKit
open Go.Proofs.Ytffhfpdmfegcpac.base Go.Proofs.Ytffhfpdmfegcpac.flat Go.Proofs.Ytffhfpdmfegcpac.same Go.Proofs.Ytffhfpdmfegcpac.addr Go.Proofs.Ytffhfpdmfegcpac.bank Go.Proofs.Ytffhfpdmfegcpac.atomic Go.Proofs.Ytffhfpdmfegcpac.table Go.Proofs.Ytffhfpdmfegcpac.play Go.Proofs.Ytffhfpdmfegcpac.refDeed
set_option linter.unusedVariables false
set_option linter.unusedSimpArgs false

/-- a deed, and what was told of it -/
structure T5 where
  d : D4
  u : Int
def T5.cells (x : T5) : List Value := [.int .i64 x.d.n, .int .i64 x.d.k, .int .i64 x.d.a, .int .u64 x.d.v, .int .u64 x.u]
def T5.Ok (x : T5) : Prop := x.d.Ok ∧ (Lit.int .u64 x.u).wf = true
def ToldsAt (w : World) (a : Option Addr) (xs : List T5) : Prop := RowsAt 5 w a (xs.map T5.cells)

section
variable {H : Type} {enc : TypeId × Value → H} {P : Program} {w : World} {base : Nat} {spare : Nat → Bool} {held : Bool}
theorem all2_told {cs : List Value} (h : All2 enc P w base spare held [.int .i64, .int .i64, .int .i64, .int .u64, .int .u64] cs) :
    ∃ a b c d e : Int, cs = [.int .i64 a, .int .i64 b, .int .i64 c, .int .u64 d, .int .u64 e] ∧ (Lit.int .i64 a).wf = true ∧ (Lit.int .i64 b).wf = true ∧ (Lit.int .i64 c).wf = true ∧ (Lit.int .u64 d).wf = true ∧ (Lit.int .u64 e).wf = true := by
  obtain ⟨_, _, rfl, ⟨a, rfl, ha⟩, g1⟩ := all2_cons h
  obtain ⟨_, _, rfl, ⟨b, rfl, hb⟩, g2⟩ := all2_cons g1
  obtain ⟨_, _, rfl, ⟨c, rfl, hc⟩, g3⟩ := all2_cons g2
  obtain ⟨_, _, rfl, ⟨d, rfl, hd⟩, g4⟩ := all2_cons g3
  obtain ⟨_, _, rfl, ⟨e, rfl, he⟩, g5⟩ := all2_cons g4
  obtain rfl := all2_nil g5
  exact ⟨a, b, c, d, e, rfl, ha, hb, hc, hd, he⟩
theorem open_tolds {m : Nat} {t e : TypeId} {a : Option Addr} {len cap : Nat} {d : DataW H} {ps : List MemPlace} (ht : P.underlying t = some (.slice e)) (hk : flat P m e = some [.int .i64, .int .i64, .int .i64, .int .u64, .int .u64]) (hl : 5 = P.cellsOf e)
    (h : DataW.Trod enc P w base spare held t (.slice a len cap) d ps) :
    len ≤ cap ∧ cap ≤ maxLen ∧ (a = none → len = 0) ∧ ∃ xs : List T5, xs.length = len ∧ ToldsAt w a xs ∧ ∀ x ∈ xs, x.Ok := by
  obtain ⟨h1, h2, h3, rs, h4, h5, h6⟩ := open_rows _ ht hk hl (by decide) h
  obtain ⟨xs, rfl, hxs⟩ := rows_of (cells := T5.cells) (good := T5.Ok) (rs := rs) fun r hr => by
    obtain ⟨a, b, c, d, e, rfl, wa, wb, wc, wd, we⟩ := all2_told (h6 r hr)
    exact ⟨⟨⟨a, b, c, d⟩, e⟩, rfl, ⟨wa, wb, wc, wd⟩, we⟩
  exact ⟨h1, h2, h3, xs, by simpa using h4, h5, hxs⟩
end
theorem ToldsAt.at {w : World} {b off : Nat} {xs : List T5} (h : ToldsAt w (some ⟨b, off, none⟩) xs) {i : Nat} {x : T5} (hx : xs[i]? = some x) :
    w.cell? ⟨b, off + i * 5, none⟩ = some (.int .i64 x.d.n) ∧ w.cell? ⟨b, off + i * 5 + 1, none⟩ = some (.int .i64 x.d.k) ∧ w.cell? ⟨b, off + i * 5 + 2, none⟩ = some (.int .i64 x.d.a) ∧ w.cell? ⟨b, off + i * 5 + 3, none⟩ = some (.int .u64 x.d.v) ∧ w.cell? ⟨b, off + i * 5 + 4, none⟩ = some (.int .u64 x.u) := by
  have hr : (xs.map T5.cells)[i]? = some x.cells := by simp [hx]
  exact ⟨RowsAt.at h hr (j := 0) rfl, RowsAt.at h hr (j := 1) rfl, RowsAt.at h hr (j := 2) rfl, RowsAt.at h hr (j := 3) rfl, RowsAt.at h hr (j := 4) rfl⟩
theorem ToldsAt.below {w w' : World} {a : Option Addr} {xs : List T5} (h : ToldsAt w a xs) (hb : Below w.heap.size w w') : ToldsAt w' a xs := RowsAt.below h hb
theorem ToldsAt.form {w : World} {a : Option Addr} {xs : List T5} (h : ToldsAt w a xs) {i : Nat} {x : T5} (hx : xs[i]? = some x) : ∃ b off, a = some ⟨b, off, none⟩ :=
  RowsAt.form h (i := i) (r := x.cells) (by simp [hx])

/-- the first fault of what was told -/
def toldE (most : Nat) (ts : List T5) : Int := if most < ts.length then 2 else firstBad (ts.map (·.d))
theorem map_take_snoc {ts : List T5} {k : Nat} {x : T5} (h : ts[k]? = some x) : (ts.map (·.d)).take (k + 1) = (ts.map (·.d)).take k ++ [x.d] := take_snoc (by simp [h])

def RelC (ts : List T5) (w0 : World) (i : Value) (wr : World) : Prop :=
  ∃ (k : Nat) (l : Array Obj) (d : Nat), k ≤ ts.length ∧ i = .int .i64 k ∧ wr = w0.later l d ∧ firstBad ((ts.map (·.d)).take k) = 0

set_option maxHeartbeats 4000000 in
set_option maxRecDepth 100000 in
theorem check_any (ts : List T5) (most : Nat) (hmost : most ≤ 1000) (a : Option Addr) (n c : Nat) (w : World) (hm : n ≤ maxLen) (hd : ts.length = n) (h : ToldsAt w a ts) :
    Calls Try.prog 37 #[.slice a n c, .int .i64 most] w (Ret (.int .i64 (toldE most ts)) w) := by
  by_cases hn : most < n
  · have hn' : (most : Int) < n := by omega
    rw [show toldE most ts = 2 from if_pos (by rw [hd]; exact hn)]
    unfold maxLen at hm
    go_enter Try.func37, Try.ntmps37
    go_wp2
    go_ret
    exact ⟨rfl, by repeat (first | exact Below.refl _ _ | apply bs_later | apply bs_alloc | apply bs_drew | apply bs_drewN)⟩
  · have hn' : (n : Int) ≤ most := by omega
    rw [show toldE most ts = firstBad (ts.map (·.d)) from if_neg (by rw [hd]; exact hn)]
    go_enter Try.func37, Try.ntmps37
    go_wp2
    go_loopw [14] (RelC ts w) (fun i _ => n - (intOf i).toNat)
    case atStart => exact ⟨0, #[], _, by omega, rfl, later_zero _, rfl⟩
    case round =>
      obtain ⟨k, l, d, hk, rfl, rfl, h0⟩ := hrel
      by_cases hlt : k < n
      · obtain ⟨x, hx⟩ := get_some (xs := ts) (k := k) (by omega)
        obtain ⟨b, off, rfl⟩ := ToldsAt.form h hx
        obtain ⟨c0, c1, c2, c3, c4⟩ := ToldsAt.at h hx
        have hin : inB w b := range.lt_of_cell c0
        have HX := Lib.hid hx
        have H0 := Lib.hid h0
        have HD := Lib.hid hd
        have HL : Hid (k + 1 ≤ ts.length) := Lib.hid (by omega)
        clear h hx h0 hd hk
        obtain ⟨⟨xn, xk, xa, xv⟩, xu⟩ := x
        simp only at c0 c1 c2 c3 c4
        by_cases hbad : rightE xn xk xa xv = 0
        · go_wp2_with (go_at_call 41; refine (right_any _ _ _ _ _).mono ?_; rintro e w1 ⟨rfl, hb1⟩; obtain ⟨l1, d1, rfl⟩ := later_of hb1; clear hb1)
          rw [later_alloc, later_later]
          go_roundw
          case rel => exact ⟨k + 1, _, _, HL.out, by go_num, rfl, by rw [map_take_snoc HX.out, firstBad_snoc, if_pos H0.out]; exact hbad⟩
          case measure => simp [intOf]; omega
        · have hbad' : (rightE xn xk xa xv != 0) = true := by simpa using hbad
          have he : firstBad (ts.map (·.d)) = rightE xn xk xa xv := firstBad_at (l := ts.map (·.d)) (k := k) (x := ⟨xn, xk, xa, xv⟩) (by simp [HX.out]) H0.out hbad
          have HE := Lib.hid he
          clear he hbad
          go_wp2_with (go_at_call 41; refine (right_any _ _ _ _ _).mono ?_; rintro e w1 ⟨rfl, hb1⟩; obtain ⟨l1, d1, rfl⟩ := later_of hb1; clear hb1)
          go_ret
          exact ⟨congrArg (fun z => Ending.returned (Value.int .i64 z)) HE.out.symm, by repeat (first | exact Below.refl _ _ | apply bs_later | apply bs_alloc | apply bs_drew | apply bs_drewN)⟩
      · obtain rfl : k = n := by omega
        have h0' : firstBad (ts.map (·.d)) = 0 := by
          rw [List.take_of_length_le (by rw [List.length_map]; omega)] at h0; exact h0
        have HE := Lib.hid h0'
        clear h0 h0' h
        go_wp2
        go_ret
        exact ⟨congrArg (fun z => Ending.returned (Value.int .i64 z)) HE.out.symm, by repeat (first | exact Below.refl _ _ | apply bs_later | apply bs_alloc | apply bs_drew | apply bs_drewN)⟩

end Go.Proofs.Ytffhfpdmfegcpac.told
