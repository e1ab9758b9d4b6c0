/- ringdovekeep.PlruTurns: for every tree and number of ways, the call returns true. -/
import Derived.Test.YtffhfpdmfegcpaaPlruSpares
import Derived.Test.YtffhfpdmfegcpaaContains
namespace Go.Proofs.Ytffhfpdmfegcpaa.plruTurns
open Go.ChangeShapes Go.WideShapes Go.ChangeAt Go.RowKit
open Go.ChangeMaps (open_string shut_string)
open Go.Proofs.Ytffhfpdmfegcpaa.base Go.Proofs.Ytffhfpdmfegcpaa.knob Go.Proofs.Ytffhfpdmfegcpaa.flat Go.Proofs.Ytffhfpdmfegcpaa.plru
set_option linter.unusedVariables false
set_option linter.unusedSimpArgs false

structure St where
  a : Bool
  b : Bool
  c : Bool
  seen : List Int
  deriving DecidableEq

def St.vic (n : Int) (s : St) : Int := victimV s.a s.b s.c n
def St.next (n : Int) (s : St) : St := ⟨touchA s.a s.b s.c n (s.vic n), touchB s.a s.b s.c n (s.vic n), touchC s.a s.b s.c n (s.vic n), s.seen ++ [s.vic n]⟩
def turn (n : Int) (s : St) : Nat → St
  | 0 => s
  | k + 1 => (turn n s k).next n
def Good (n : Int) (s : St) : Bool := decide (plruE s.a s.b s.c n = 0) && !decide (s.vic n ∈ s.seen) && decide (touchE s.a s.b s.c n (s.vic n) = 0)

theorem turns (a b c : Bool) (n : Int) (h0 : plruE a b c n = 0) (h3 : ¬ n = 3) : (n = 1 ∨ n = 2 ∨ n = 4) ∧ ∀ k : Nat, (k : Int) < n → Good n (turn n ⟨a, b, c, []⟩ k) = true := by
  have hn : n = 1 ∨ n = 2 ∨ n = 4 := by
    by_cases h1 : n < 1 ∨ 4 < n
    · rw [show plruE a b c n = 4 from if_pos h1] at h0; omega
    · omega
  refine ⟨hn, ?_⟩
  intro k hk
  rcases hn with rfl | rfl | rfl
  · obtain rfl : k = 0 := by omega
    cases a <;> cases b <;> cases c <;> first | exact absurd h0 (by decide) | decide
  · obtain rfl | rfl : k = 0 ∨ k = 1 := by omega
    all_goals cases a <;> cases b <;> cases c <;> first | exact absurd h0 (by decide) | decide
  · obtain rfl | rfl | rfl | rfl : k = 0 ∨ k = 1 ∨ k = 2 ∨ k = 3 := by omega
    all_goals cases a <;> cases b <;> cases c <;> first | exact absurd h0 (by decide) | decide

theorem good_of {n : Int} {s : St} (h : Good n s = true) : plruE s.a s.b s.c n = 0 ∧ ¬ victimV s.a s.b s.c n ∈ s.seen ∧ touchE s.a s.b s.c n (victimV s.a s.b s.c n) = 0 := by
  unfold Good at h
  simp only [Bool.and_eq_true, decide_eq_true_eq, Bool.not_eq_true', decide_eq_false_iff_not] at h
  exact ⟨h.1.1, h.1.2, h.2⟩

set_option maxHeartbeats 1000000 in
set_option maxRecDepth 100000 in
theorem walk_bad (a b c : Bool) (n : Int) (w : World) (h : (plruE a b c n = 0 ∧ n = 3) ∨ ¬ plruE a b c n = 0) :
    Calls Try.prog 12 #[.agg #[.bool a, .bool b, .bool c], .int .i64 n] w (Ret (.bool true) w) := by
  rcases h with ⟨h, rfl⟩ | h
  · go_enter Try.func12, Try.ntmps12
    go_wp2_with (first
      | (go_at_call 46; refine (plruSpares.plrus _).mono ?_; rintro e w1 ⟨rfl, hb1⟩; obtain ⟨l1, d1, rfl⟩ := later_of hb1; clear hb1)
      | (go_at_call 35; refine (check_any _ _ _ _ _).mono ?_; rintro e w1 ⟨rfl, hb1⟩; obtain ⟨l1, d1, rfl⟩ := later_of hb1; clear hb1))
    go_ret
    exact ⟨rfl, by repeat (first | exact Below.refl _ _ | apply bs_later | apply bs_alloc | apply bs_drew | apply bs_drewN)⟩
  · have h' : (plruE a b c n != 0) = true := by simpa using h
    clear h
    go_enter Try.func12, Try.ntmps12
    go_wp2_with (first
      | (go_at_call 46; refine (plruSpares.plrus _).mono ?_; rintro e w1 ⟨rfl, hb1⟩; obtain ⟨l1, d1, rfl⟩ := later_of hb1; clear hb1)
      | (go_at_call 35; refine (check_any _ _ _ _ _).mono ?_; rintro e w1 ⟨rfl, hb1⟩; obtain ⟨l1, d1, rfl⟩ := later_of hb1; clear hb1))
    go_ret
    exact ⟨rfl, by repeat (first | exact Below.refl _ _ | apply bs_later | apply bs_alloc | apply bs_drew | apply bs_drewN)⟩

theorem info_int : (Try.prog.info? 3).map (fun i => (i.zero, i.size, i.bytes)) = some (some (.int .i64 0), 1, 8) := by kernel_rfl

/-- what holds at each round's head -/
def Rel (a b c : Bool) (n : Int) (w : World) (v i : Value) (wr : World) : Prop :=
  ∃ (k : Nat) (s : St) (l : Array Obj) (d : Nat), (k : Int) ≤ n ∧ i = .int .i64 k ∧ turn n ⟨a, b, c, []⟩ k = s ∧ s.seen.length = k ∧
    wr = (w.alloc (.cells #[.bool s.a, .bool s.b, .bool s.c] 54)).later l d ∧ wr.ownsRow (w.heap.size + 1) 3 1 v k (s.seen.map (Value.int .i64))

theorem one_new {W : World} {v : Value} {t : TypeId} {g : Nat} (hg : g = W.heap.size) : ∀ (j : Nat) (u : Value), [v][j]? = some u → (W.alloc (.cells #[v] t)).cell? ((⟨g, 0, none⟩ : Addr).add j) = some u := by
  intro j u h
  subst hg
  cases j with
  | zero => simp at h; subst h; simp [Addr.add]
  | succ j => simp at h

theorem contains_n (a : Option Addr) (c : Nat) (x : Int) (w : World) (xs : List Int) (n : Nat) (hl : xs.length = n) (hn : n ≤ maxLen) (ha : IntsAt .i64 w a xs) :
    Calls Try.prog 44 #[.slice a n c, .int .i64 x] w fun e w' => e = .returned (.bool (decide (x ∈ xs))) ∧ w = w' := by
  subst hl; exact contains.contains_any a c x w xs hn ha

set_option maxHeartbeats 2000000 in
set_option maxRecDepth 100000 in
theorem walk_ok (a b c : Bool) (n : Int) (w : World) (h : plruE a b c n = 0) (h3 : ¬ n = 3) :
    Calls Try.prog 12 #[.agg #[.bool a, .bool b, .bool c], .int .i64 n] w (Ret (.bool true) w) := by
  obtain ⟨hn, hgood⟩ := turns a b c n h h3
  have hn1 : 1 ≤ n := by omega
  have hn4 : n ≤ 4 := by omega
  have HG := Lib.hid hgood
  have h3' : (n == 3) = false := by simpa using h3
  clear hgood h3 hn
  obtain ⟨i0, hi, hz0, hz1, hz2⟩ := info_parts info_int
  go_enter Try.func12, Try.ntmps12
  go_wp2_with (first
    | (go_at_call 46; refine (plruSpares.plrus _).mono ?_; rintro e w1 ⟨rfl, hb1⟩; obtain ⟨l1, d1, rfl⟩ := later_of hb1; clear hb1)
    | (go_at_call 35; refine (check_any _ _ _ _ _).mono ?_; rintro e w1 ⟨rfl, hb1⟩; obtain ⟨l1, d1, rfl⟩ := later_of hb1; clear hb1))
  go_loopw [5, 19] (Rel a b c n w) (fun _ i _ => (n - intOf i).toNat)
  case atStart =>
    rw [later_later]
    exact ⟨0, ⟨a, b, c, []⟩, _, _, by omega, rfl, rfl, rfl, rfl, World.ownsRow_nil _ _ _ _⟩
  case round =>
    obtain ⟨k, s, l, d, hk, rfl, hs, hl, rfl, hown⟩ := hrel
    by_cases hlt : (k : Int) < n
    · obtain ⟨g1, g2, g3⟩ := good_of (by have := HG.out k hlt; rw [hs] at this; exact this)
      have HS := Lib.hid hs
      have HL := Lib.hid hl
      have HO := Lib.hid hown
      obtain ⟨sa, ss, hv⟩ := own_form hown
      subst hv
      have H2 := Lib.hid g2
      clear hs hl hown g2
      go_wp2_with (first
        | (go_at_call 33; refine (victim_any _ _ _ _ _).mono ?_; rintro e w1 ⟨rfl, hb1⟩; obtain ⟨l1, d1, rfl⟩ := later_of hb1; clear hb1))
      refine (contains_n sa ss _ _ s.seen k HL.out (by unfold maxLen; omega) (own_ints (own_later HO.out)).2).mono ?_
      rintro e w1 ⟨rfl, rfl⟩
      rw [decide_eq_false H2.out]
      go_wp2_with (at_builtin; refine wpList_append_own _ rfl _ _ 24 rfl (w.heap.size + 1) 3 i0 (.int .i64 0) 1 8 Try.underlying24 hi hz0 hz1 hz2 rfl (by decide) _ _ _ rfl ((own_later HO.out).alloc _) ⟨w.heap.size + 1 + l.size + l1.size, 0, none⟩ 1 1 [.int .i64 (victimV s.a s.b s.c n)] rfl rfl ?c1 ?c2 ?c3 ?c4 ?c5 ?_)
      case c1 => exact one_new (by simp)
      case c2 => intro u hu; simp at hu; subst hu; rfl
      case c3 => unfold maxLen; omega
      case c4 => omega
      case c5 => simp; omega
      intro v' w1 hown' hgrow _
      have hb : Below (w.alloc (.cells #[.bool s.a, .bool s.b, .bool s.c] 54)).heap.size (w.alloc (.cells #[.bool s.a, .bool s.b, .bool s.c] 54)) w1 :=
        below_grown (by repeat (first | exact Below.refl _ _ | apply bs_later | apply bs_alloc | apply bs_drew | apply bs_drewN)) hgrow (fun g hg => by have := (HO.out.lt g hg).1; simp; omega)
      obtain ⟨l2, d2, rfl⟩ := later_of hb
      have HO' := Lib.hid hown'
      clear hb hgrow hown'
      go_wp2_with (first
        | (go_at_call 32; refine (touch_any _ _ _ _ _ _).mono ?_; rintro e w1 ⟨rfl, hb1⟩; obtain ⟨l3, d3, rfl⟩ := later_of hb1; clear hb1))
      rw [later_later]
      go_roundw
      case rel =>
        refine ⟨k + 1, s.next n, _, _, by omega, by go_num, ?_, ?_, rfl, ?_⟩
        · show (turn n ⟨a, b, c, []⟩ k).next n = _
          rw [HS.out]
        · show (s.seen ++ [s.vic n]).length = _
          rw [List.length_append, HL.out]; rfl
        · rw [← later_later]
          have h5 := own_swap (W1 := w.alloc (.cells #[.bool (s.next n).a, .bool (s.next n).b, .bool (s.next n).c] 54)) (d' := d2) HO'.out (by simp) (by simp)
          have h6 := own_later (l := l3) (d := d3) h5
          simpa [St.next, St.vic] using h6
      case measure => simp [intOf]; omega
    · have hk2 : (k : Int) = n := by omega
      have hk3 : ¬ (k : Int) < n := by omega
      clear hk2 hs hl hown
      go_wp2
      go_ret
      exact ⟨rfl, by repeat (first | exact Below.refl _ _ | apply bs_later | apply bs_alloc | apply bs_drew | apply bs_drewN)⟩

theorem walk (a b c : Bool) (n : Int) (w : World) (wn : (Lit.int .i64 n).wf = true) :
    Calls Try.prog 12 #[.agg #[.bool a, .bool b, .bool c], .int .i64 n] w (Ret (.bool true) w) := by
  by_cases h : plruE a b c n = 0
  · by_cases h3 : n = 3
    · exact walk_bad a b c n w (.inl ⟨h, h3⟩)
    · exact walk_ok a b c n w h h3
  · exact walk_bad a b c n w (.inr h)

-- the frame, by program
set_option maxRecDepth 100000 in
theorem lifted (os : Os) (started : os.Started) (H : Type) (enc : TypeId × Value → H) :
    ReturnsInHanded {} Try.checked os 12 .any (Rows.plruTurnsSpec.pre6 enc Try.prog Try.f12 Rows.plruTurnsRow.domain false) (Rows.plruTurnsSpec.post enc Try.prog Try.f12 false true false false) := by
  refine returnsInHanded_of_change (C := Try.checked) own started (by kernel_rfl) Try.func12
    (ChangeSpec.witness6 (enc := enc) (C := Try.checked) false ⟨#[], #[.agg #[.bool false, .bool false, .bool false], .int .i64 0], []⟩ 8 (by kernel_rfl) (by kernel_rfl) (by kernel_rfl) (by kernel_rfl)) ?_
  intro W base args ds gs before hval0 hW hcnd _
  have hval : ∀ (j : Nat) t v, Try.f12.params[j]? = some t → args[j]? = some v → Value.okWide Try.prog W .any base t v := hval0
  have hW' := hW
  obtain ⟨p, q, hA0, hV, rfl, hfz, hnd⟩ := hW
  have hA : DataW.TrodAll enc Try.prog W 0 (fun _ => true) true Try.f12.params.toList args.toList ds p := hA0
  rw [Try.params12] at hA hval
  obtain ⟨v0, vs0, d0, ds0, p0, q0, hargs, rfl, rfl, h0, r0⟩ := trodAll_cons hA
  obtain ⟨v1, vs1, d1, ds1, p1, q1, rfl, rfl, rfl, h1, r1⟩ := trodAll_cons r0
  obtain ⟨rfl, rfl, rfl⟩ := trodAll_nil r1
  obtain rfl : args = #[v0, v1] := by cases args; simp_all
  obtain ⟨rfl, rfl⟩ := trodVars_none hV
  have k0 := h0
  have lt0 : ∀ x ∈ p0, x.block < W.heap.size := by obtain ⟨m, hm⟩ := k0; exact DataW.trod_lt m _ _ _ hm
  have k1 := h1
  have lt1 : ∀ x ∈ p1, x.block < W.heap.size := by obtain ⟨m, hm⟩ := k1; exact DataW.trod_lt m _ _ _ hm
  obtain ⟨cs0, rfl, al0⟩ := open_flat (n := 4) [.bool, .bool, .bool] (by kernel_rfl) (by kernel_rfl) (.inl ⟨_, Try.underlying54⟩) (hval 0 54 v0 rfl rfl) h0
  obtain ⟨a0x, a0y, a0z, rfl⟩ := all2_tree al0
  obtain ⟨a1, rfl, rfl, rfl, w1⟩ := open_int Try.underlying3 (hval 1 3 v1 rfl rfl) h1
  clear hA0 hval0
  refine (walk a0x a0y a0z a1 W w1).mono fun e W' ⟨he, bel⟩ => ?_
  subst he
  exact ⟨_, rfl, _, _, _, [], _, [], hW', trodAll_mk1 (shut_bool Try.underlying4 _), (trodAll_cons_mk (Below.trod laidOut (by kernel_rfl) (of_decide_eq_true (by kernel_rfl)) k0 bel lt0) (trodAll_cons_mk (Below.trod laidOut (by kernel_rfl) (of_decide_eq_true (by kernel_rfl)) k1 bel lt1) trodAll_mk0)), rfl, bel.frame _, fun h => by cases h⟩

theorem over : Rows.plruTurnsRow.holds Try.pinned (OpenSpec.ofChange Rows.plruTurnsSpec) :=
  OpenClaim.holds_of_wide 12 Try.f12 rfl rfl rfl rfl rfl rfl rfl ⟨rfl, rfl, rfl, rfl, rfl⟩ rfl rfl rfl rfl rfl (by kernel_rfl) Try.func12 (by kernel_rfl)
    (of_decide_eq_true (by kernel_rfl)) (by unfold Func.isWrapper; first | (rw [if_pos (by decide +kernel)]; kernel_rfl) | (rw [if_neg (by decide +kernel)]; exact ⟨rfl, rfl⟩))
    (fun os started H enc _ => lifted os started H enc)

theorem proved : Rows.PlruTurnsSaid := over

end Go.Proofs.Ytffhfpdmfegcpaa.plruTurns
