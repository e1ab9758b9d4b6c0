/- What the law of tally reckons besides; and the contract of ringdoveref.SameTolds at two lists that are the same. -/
import Derived.Test.YtffhfpdmfegcpabTallyMem
import Derived.Test.YtffhfpdmfegcpabTallySum
import Derived.Test.YtffhfpdmfegcpabCountRow
import Derived.Test.YtffhfpdmfegcpabSame
namespace Go.Proofs.Ytffhfpdmfegcpab.tally
open Go.ChangeShapes Go.WideShapes Go.ChangeAt Go.RowKit
open Go.Proofs.Ytffhfpdmfegcpab.base Go.Proofs.Ytffhfpdmfegcpab.flat Go.Proofs.Ytffhfpdmfegcpab.same Go.Proofs.Ytffhfpdmfegcpab.addr Go.Proofs.Ytffhfpdmfegcpab.bank Go.Proofs.Ytffhfpdmfegcpab.atomic Go.Proofs.Ytffhfpdmfegcpab.table Go.Proofs.Ytffhfpdmfegcpab.play Go.Proofs.Ytffhfpdmfegcpab.told Go.Proofs.Ytffhfpdmfegcpab.prog Go.Proofs.Ytffhfpdmfegcpab.memEq
set_option linter.unusedVariables false
set_option linter.unusedSimpArgs false

theorem fnz_snocT {α : Type} (f : Nat → α → Int) (x : α) : ∀ (l : List α) (s : Nat), fnz f s (l ++ [x]) = if fnz f s l = 0 then f (s + l.length) x else fnz f s l
  | [], s => by
    show (if f s x = 0 then (0 : Int) else f s x) = if (0 : Int) = 0 then f s x else 0
    by_cases h : f s x = 0
    · rw [if_pos h, if_pos rfl, h]
    · rw [if_neg h, if_pos rfl]
  | y :: l, s => by
    show (if f s y = 0 then fnz f (s + 1) (l ++ [x]) else f s y) = if (if f s y = 0 then fnz f (s + 1) l else f s y) = 0 then f (s + (l.length + 1)) x else (if f s y = 0 then fnz f (s + 1) l else f s y)
    by_cases h : f s y = 0
    · rw [if_pos h, if_pos h, fnz_snocT f x l (s + 1), show s + 1 + l.length = s + (l.length + 1) by omega]
    · rw [if_neg h, if_neg h, if_neg h]
def rgt (x : E6) : Int := rightE x.d.n x.d.k x.d.a x.d.v
theorem evP_eight (i : Nat) (x : E6) : evP 8 i x = rgt x := by
  unfold evP splitP rgt
  by_cases h : rightE x.d.n x.d.k x.d.a x.d.v = 0
  · rw [if_pos h, if_neg (by have := (right_pos h).1.2; omega), h]
  · rw [if_neg h]

/-- the law's own fold: the fault so far, and memory so far -/
structure S2 where
  e : Int
  m : List Int
def S2.next (s : S2) (x : E6) : S2 := if s.e = 0 then (if rgt x = 0 then ⟨0, plainM s.m x.d.k x.d.a x.d.v⟩ else ⟨rgt x, s.m⟩) else s
def foldS (s : S2) (ts : List E6) : S2 := ts.foldl S2.next s
theorem foldS_snoc (s : S2) (l : List E6) (x : E6) : foldS s (l ++ [x]) = (foldS s l).next x := by simp [foldS, List.foldl_append]
theorem next_len (s : S2) (x : E6) : (s.next x).m.length = s.m.length := by
  unfold S2.next
  split
  · split
    · exact plainM_len _ _ _ _
    · rfl
  · rfl
theorem foldS_len (s : S2) : ∀ ts, (foldS s ts).m.length = s.m.length := by
  refine snoc_ind rfl ?_
  intro l x ih
  rw [foldS_snoc, next_len, ih]
theorem next_wf {s : S2} {x : E6} (h : AllU s.m) (hx : x.Ok) : AllU (s.next x).m := by
  unfold S2.next
  split
  · split
    · exact plainM_wf h _ _ hx.1.2.2.2
    · exact h
  · exact h
theorem foldS_wf {s : S2} (h : AllU s.m) : ∀ ts, (∀ x ∈ ts, x.Ok) → AllU (foldS s ts).m := by
  refine snoc_ind (fun _ => h) ?_
  intro l x ih hx
  rw [foldS_snoc]
  exact next_wf (ih fun y hy => hx y (by simp [hy])) (hx x (by simp))
theorem foldS_bad {s : S2} (h : ¬ s.e = 0) : ∀ ts, foldS s ts = s := by
  refine snoc_ind rfl ?_
  intro l x ih
  rw [foldS_snoc, ih]
  exact if_neg h
theorem foldS_zero (xs : List Int) : ∀ ts, (foldS ⟨0, xs⟩ ts).e = fnz (evP 8) 0 ts ∧ ((foldS ⟨0, xs⟩ ts).e = 0 → (foldS ⟨0, xs⟩ ts).m = memE xs ts) := by
  refine snoc_ind ⟨rfl, fun _ => rfl⟩ ?_
  intro l x ⟨ih1, ih2⟩
  rw [foldS_snoc, fnz_snocT, evP_eight, ← ih1]
  unfold S2.next
  by_cases h : (foldS ⟨0, xs⟩ l).e = 0
  · rw [if_pos h, if_pos h]
    by_cases hr : rgt x = 0
    · rw [if_pos hr]
      exact ⟨hr.symm, fun _ => by rw [ih2 h, memE_snoc]⟩
    · rw [if_neg hr]
      exact ⟨rfl, fun h0 => absurd h0 hr⟩
  · rw [if_neg h, if_neg h]
    exact ⟨rfl, fun h0 => absurd h0 h⟩
theorem foldS_law (xs : List Int) (ts : List E6) : (foldS ⟨if 200 < ts.length then 2 else 0, xs⟩ ts).e = evE 8 ts ∧ (evE 8 ts = 0 → (foldS ⟨if 200 < ts.length then 2 else 0, xs⟩ ts).m = memE xs ts) := by
  unfold evE
  by_cases h : 200 < ts.length
  · rw [if_pos h, if_pos h, foldS_bad (by show ¬ (2 : Int) = 0; decide)]
    exact ⟨rfl, fun h0 => absurd h0 (by decide)⟩
  · rw [if_neg h, if_neg h]
    obtain ⟨h1, h2⟩ := foldS_zero xs ts
    exact ⟨h1, fun h0 => h2 (by rw [h1]; exact h0)⟩
/-- the second scan -/
def scanT (cn B : Int) (ts : List E6) : Int := if B = 0 then fnz (evP cn) 0 ts else B
theorem scanT_snoc (cn B : Int) (l : List E6) (x : E6) : scanT cn B (l ++ [x]) = if scanT cn B l = 0 then splitP cn 0 x.d else scanT cn B l := by
  unfold scanT
  by_cases h : B = 0
  · rw [if_pos h, if_pos h]; exact fnz_snocT (evP cn) x l 0
  · rw [if_neg h, if_neg h, if_neg h]
theorem scanT_law (cn cs cy cb : Int) (ts : List E6) : scanT cn (if cfgE cn cs cy cb = 0 then (if 200 < ts.length then 2 else 0) else cfgE cn cs cy cb) ts = tallyE cn cs cy cb ts := by
  unfold scanT tallyE evE
  by_cases h : cfgE cn cs cy cb = 0
  · rw [if_pos h, if_pos h]
    by_cases h2 : 200 < ts.length
    · rw [if_pos h2, if_pos h2]; rfl
    · rw [if_neg h2, if_neg h2]; rfl
  · rw [if_neg h, if_neg h, if_neg h]

theorem T5.allW {x : T5} (h : x.Ok) : AllW [.int .i64, .int .i64, .int .i64, .int .u64, .int .u64] x.cells :=
  ⟨⟨_, rfl, h.1.1⟩, ⟨_, rfl, h.1.2.1⟩, ⟨_, rfl, h.1.2.2.1⟩, ⟨_, rfl, h.1.2.2.2⟩, ⟨_, rfl, h.2⟩, trivial⟩
theorem run_same_told {x : T5} (h : x.Ok) : ∀ w, (Op.equalIn 10000 83 (.agg #[.int .i64 x.d.n, .int .i64 x.d.k, .int .i64 x.d.a, .int .u64 x.d.v, .int .u64 x.u]) (.agg #[.int .i64 x.d.n, .int .i64 x.d.k, .int .i64 x.d.a, .int .u64 x.d.v, .int .u64 x.u])).run Try.prog w = .ok true w := fun w => by
  have e := run_equalIn_flat (P := Try.prog) w 4 83 [.int .i64, .int .i64, .int .i64, .int .u64, .int .u64] (by kernel_rfl) (by kernel_rfl) (by kernel_rfl) (by omega) (.inl ⟨_, Try.underlying83⟩) x.cells x.cells (T5.allW h) (T5.allW h)
  rw [eqv_true rfl] at e
  exact e
theorem C5.allW {x : C5} (h : ∀ j, (Lit.int .i64 (x.nth j)).wf = true) : AllW [.int .i64, .int .i64, .int .i64, .int .i64, .int .i64] x.cells :=
  ⟨⟨_, rfl, h 0⟩, ⟨_, rfl, h 1⟩, ⟨_, rfl, h 2⟩, ⟨_, rfl, h 3⟩, ⟨_, rfl, h 4⟩, trivial⟩
theorem run_same_count {x : C5} (h : ∀ j, (Lit.int .i64 (x.nth j)).wf = true) : ∀ w, (Op.equalIn 10000 52 (.agg #[.int .i64 x.a, .int .i64 x.b, .int .i64 x.c, .int .i64 x.d, .int .i64 x.e]) (.agg #[.int .i64 x.a, .int .i64 x.b, .int .i64 x.c, .int .i64 x.d, .int .i64 x.e])).run Try.prog w = .ok true w := fun w => by
  have e := run_equalIn_flat (P := Try.prog) w 4 52 [.int .i64, .int .i64, .int .i64, .int .i64, .int .i64] (by kernel_rfl) (by kernel_rfl) (by kernel_rfl) (by omega) (.inl ⟨_, Try.underlying52⟩) x.cells x.cells (C5.allW h) (C5.allW h)
  rw [eqv_true rfl] at e
  exact e

set_option maxHeartbeats 1000000 in
set_option maxRecDepth 100000 in
theorem sameTolds_yes (a b : Option Addr) (n c d : Nat) (w : World) (xs : List T5) (hx : xs.length = n) (hn : n ≤ maxLen) (wx : ∀ x ∈ xs, x.Ok) (ha : ToldsAt w a xs) (hb : ToldsAt w b xs) :
    Calls Try.prog 52 #[.slice a n c, .slice b n d] w fun e w' => e = .returned (.bool true) ∧ ∃ n, w' = w.drewN n := by
  unfold maxLen at hn
  have HX := Lib.hid hx
  have HCA := Lib.hid ha
  have HCB := Lib.hid hb
  have HWX := Lib.hid wx
  have hbn : ((n : Int) != (n : Int)) = false := by simp
  clear hx ha hb wx
  go_enter Try.func52, Try.ntmps52
  go_wp2
  go_loopw [13] (fun i wr => ∃ k : Nat, k ≤ n ∧ i = .int .i64 k ∧ ∃ m, wr = w.drewN m) (fun i _ => n - (intOf i).toNat)
  case atStart => exact ⟨0, by omega, rfl, 0, rfl⟩
  case round =>
    obtain ⟨k, hk, rfl, nw, rfl⟩ := hrel
    by_cases hlt : k < n
    · obtain ⟨x, hx⟩ := get_some (xs := xs) (k := k) (by rw [HX.out]; exact hlt)
      obtain ⟨ba, oa, rfl⟩ := ToldsAt.form HCA.out hx
      obtain ⟨bb, ob, rfl⟩ := ToldsAt.form HCB.out hx
      obtain ⟨c0, c1, c2, c3, c4⟩ := ToldsAt.at HCA.out hx
      obtain ⟨e0, e1, e2, e3, e4⟩ := ToldsAt.at HCB.out hx
      have hq := run_same_told (HWX.out x (List.mem_of_getElem? hx))
      clear hx hk
      go_wp2
      go_quiet (fail)
      go_wp2
      go_roundw
      case rel => exact ⟨k + 1, hlt, by go_num, _, rfl⟩
      case measure => simp [intOf]; omega
    · obtain rfl : k = n := by omega
      go_wp2
      go_ret
      exact ⟨rfl, _, rfl⟩
end Go.Proofs.Ytffhfpdmfegcpab.tally
