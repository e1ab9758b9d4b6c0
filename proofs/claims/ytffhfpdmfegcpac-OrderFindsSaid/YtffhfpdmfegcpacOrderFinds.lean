/- ringdovekeep.OrderFinds: for every memory, all deeds and all logs, the law's call returns true. -/
import Derived.Test.YtffhfpdmfegcpacExplain
import Derived.Test.YtffhfpdmfegcpacMineLaw
import Derived.Test.YtffhfpdmfegcpacOrders
import Derived.Test.YtffhfpdmfegcpacKnob
import Derived.OwnWalk
import Derived.Laws.OwnMore
import Derived.Deep.RegionLaw
import Derived.Deep.AppendLies
import Derived.Deep.RegionHeld
import Derived.Deep.DeepCutAuto
import Derived.Deep.CutBlock
namespace Go.Proofs.Ytffhfpdmfegcpac.orderFinds
open Go.ChangeShapes Go.WideShapes Go.ChangeAt Go.RowKit
open Go.ChangeMaps (open_string shut_string)
open Go.Joins (ownsRow_le)
open Go.Proofs.Ytffhfpdmfegcpac.base Go.Proofs.Ytffhfpdmfegcpac.knob Go.Proofs.Ytffhfpdmfegcpac.flat Go.Proofs.Ytffhfpdmfegcpac.same Go.Proofs.Ytffhfpdmfegcpac.addr Go.Proofs.Ytffhfpdmfegcpac.bank Go.Proofs.Ytffhfpdmfegcpac.atomic Go.Proofs.Ytffhfpdmfegcpac.table Go.Proofs.Ytffhfpdmfegcpac.play Go.Proofs.Ytffhfpdmfegcpac.memEq Go.Proofs.Ytffhfpdmfegcpac.told Go.Proofs.Ytffhfpdmfegcpac.turn Go.Proofs.Ytffhfpdmfegcpac.rows Go.Proofs.Ytffhfpdmfegcpac.find Go.Proofs.Ytffhfpdmfegcpac.mine
set_option linter.unusedVariables false
set_option linter.unusedSimpArgs false

theorem info_logsO : (Try.prog.info? 34).map (fun i => (i.zero, i.size, i.bytes)) = some (some (.slice none 0 0), 1, 24) := by kernel_rfl
theorem info_toldO : (Try.prog.info? 39).map (fun i => (i.zero, i.size, i.bytes)) = some (some (.agg #[.int .i64 0, .int .i64 0, .int .i64 0, .int .u64 0, .int .u64 0]), 5, 40) := by kernel_rfl
theorem own_drewO {w : World} {base size n : Nat} {e : TypeId} {v : Value} {xs : List Value} (h : w.ownsRow base e size v n xs) : w.drew.ownsRow base e size v n xs := h
theorem rows_drewO {w : World} {g size : Nat} {e : TypeId} {vs : List Value} {xss : List (Nat × List Value)} (h : OwnRows w g e size vs xss) : OwnRows w.drew g e size vs xss := h.map fun _ _ _ hx => hx
theorem own_dO {W : World} {l : Array Obj} {d base size n : Nat} {e : TypeId} {v : Value} {xs : List Value} (h : (W.later l d).ownsRow base e size v n xs) (d' : Nat) : (W.later l d').ownsRow base e size v n xs := h
theorem five_newO {W : World} {a b c d e : Value} {t : TypeId} {g : Nat} (hg : g = W.heap.size) : ∀ (j : Nat) (u : Value), [a, b, c, d, e][j]? = some u → (W.alloc (.cells #[a, b, c, d, e] t)).cell? ((⟨g, 0, none⟩ : Addr).add j) = some u := by
  intro j u h
  have hj : j < 5 := (List.getElem?_eq_some_iff.1 h).1
  have e : (⟨g, 0, none⟩ : Addr).add j = ⟨g, j, none⟩ := by unfold Addr.add; split <;> simp_all
  rw [e, World.cell?_alloc_at _ _ _ _ hg]
  simpa using h
theorem own_neO {w : World} {g n size : Nat} {e : TypeId} {v : Value} {xs : List Value} (h : w.ownsRow (g + 1) e size v n xs) : v.ownBlock ≠ some g := by
  intro e
  have := (h.lt g e).1
  omega
theorem own_storeO {W : World} {l : Array Obj} {d base g n cap size : Nat} {e : TypeId} {xs : List Value} (h : (W.later l d).ownsRow base e size (.slice (some ⟨g, 0, none⟩) n cap) n xs) (hb : W.heap.size ≤ base) (hg : base ≤ g) (j : Nat) (u : Value) :
    ∃ l' d', (W.later l d).setCell ⟨g, j, none⟩ u = W.later l' d' ∧ l'.size = l.size ∧ (W.later l' d').ownsRow base e size (.slice (some ⟨g, 0, none⟩) n cap) n (xs.set j u) := by
  obtain ⟨h1, h2⟩ := World.ownsRow.stored h j u
  have hbw : Below W.heap.size W ((W.later l d).setCell ⟨g, j, none⟩ u) := (bs_later (Below.refl _ _) l d).grown h2 (by simp) (fun k hk => by injection hk with hk; omega)
  obtain ⟨l', d', e⟩ := later_of hbw
  refine ⟨l', d', e, ?_, e ▸ h1⟩
  have := congrArg (fun w : World => w.heap.size) e
  simp at this
  omega
theorem made_atL (n : Nat) : (madeCells (Value.int .i64 0).cells (n * 1)).toList = atL (List.replicate n 0) := by
  apply List.ext_getElem?
  intro j
  rw [Nat.mul_one]
  by_cases hj : j < n
  · simp [madeCells, atL, hj, Nat.mod_one, Value.cells]
  · simp [madeCells, atL, hj]
theorem made_nilsO (n : Nat) : (madeCells (Value.slice none 0 0).cells (n * 1)).toList = List.replicate n (.slice none 0 0) := by
  apply List.ext_getElem?
  intro j
  rw [Nat.mul_one]
  by_cases hj : j < n
  · simp [madeCells, hj, Nat.mod_one, Value.cells]
  · simp [madeCells, hj]
theorem atL_get {a : List Nat} {k i : Nat} (h : a[k]? = some i) : (atL a)[k]? = some (.int .i64 (i : Int)) := by simp [atL, h]
theorem atL_set (a : List Nat) (k i : Nat) : atL (a.set k i) = (atL a).set k (.int .i64 (i : Int)) := by simp [atL, List.map_set]
theorem iL_get {ps : List Nat} {j k : Nat} (h : ps[j]? = some k) : (iL (some ps))[j]? = some (k : Int) := by simp [iL, h]
theorem iL_len (ps : List Nat) : (iL (some ps)).length = ps.length := by simp [iL]
theorem ord_inv {logs : List (List T5)} {a : List Nat} {m : List Int} {k : Nat} {ps : List Nat} (h : Ord logs a m (k :: ps)) : ∃ t, stepK logs a m k = some t ∧ Ord logs (bump a k) (plainM m t.d.k t.d.a t.d.v) ps := by
  cases h with
  | cons _ _ _ t _ h1 h2 => exact ⟨t, h1, h2⟩
theorem ord_end {logs : List (List T5)} {a : List Nat} {m : List Int} (h : Ord logs a m []) : ∀ (k : Nat) (l : List T5), logs[k]? = some l → a[k]? = some l.length := by
  cases h with
  | nil _ _ h => exact h
theorem legal_next {m : List Int} {ts : List T5} {t : T5} (h : legalB m ts = true) (ht : plainV (memT m ts) t.d.k t.d.a = t.u) : legalB m (ts ++ [t]) = true := by rw [legalB_snoc, h, ht]; simp
theorem told_fine {m : List Int} {ts : List T5} (hl : legalB m ts = true) (hb : ∀ x ∈ ts, badOf x.d = 0) (h200 : ts.length ≤ 200) : legalR m ts = true ∧ toldE 200 ts = 0 := by
  have h0 : toldE 200 ts = 0 := by
    unfold toldE
    rw [if_neg (by omega)]
    exact firstBad_all fun d hd => by
      obtain ⟨x, hx, rfl⟩ := List.mem_map.1 hd
      exact hb x hx
  exact ⟨by unfold legalR; rw [if_pos h0]; exact hl, h0⟩
theorem deeds_form {w : World} {a : Option Addr} {xs : List D4} (h : DeedsAt w a xs) {i : Nat} {x : D4} (hx : xs[i]? = some x) : ∃ b off, a = some ⟨b, off, none⟩ :=
  RowsAt.form h (i := i) (r := x.cells) (by simp [hx])
/-- what a round reads: the deed, and what was told -/
def HeldO (bd K : Nat) (yk ya yv : Int) (bt ot : Nat) (yu : Int) (w : World) : Prop :=
  w.cell? ⟨bd, 0, none⟩ = some (.int .i64 (K : Int)) ∧ w.cell? ⟨bd, 1, none⟩ = some (.int .i64 yk) ∧ w.cell? ⟨bd, 2, none⟩ = some (.int .i64 ya) ∧ w.cell? ⟨bd, 3, none⟩ = some (.int .u64 yv) ∧ w.cell? ⟨bt, ot, none⟩ = some (.int .u64 yu)
theorem HeldO.grown {bd K : Nat} {yk ya yv : Int} {bt ot : Nat} {yu : Int} {w w' : World} {row : Option Nat} (h : HeldO bd K yk ya yv bt ot yu w) (hg : w.grownBy w' row) (h1 : some bd ≠ row) (h2 : some bt ≠ row) : HeldO bd K yk ya yv bt ot yu w' := by
  obtain ⟨k0, k1, k2, k3, k4⟩ := h
  have hb := table.lt_of_cell k0
  have ht := table.lt_of_cell k4
  exact ⟨by rw [World.cell?_of_block (hg.block bd hb h1)]; exact k0, by rw [World.cell?_of_block (hg.block bd hb h1)]; exact k1, by rw [World.cell?_of_block (hg.block bd hb h1)]; exact k2, by rw [World.cell?_of_block (hg.block bd hb h1)]; exact k3, by rw [World.cell?_of_block (hg.block bt ht h2)]; exact k4⟩
theorem HeldO.alloc {bd K : Nat} {yk ya yv : Int} {bt ot : Nat} {yu : Int} {w : World} (h : HeldO bd K yk ya yv bt ot yu w) (o : Obj) : HeldO bd K yk ya yv bt ot yu (w.alloc o) := h.grown (World.grownBy_alloc w o none) (by simp) (by simp)
theorem plainV_wf {m : List Int} (wm : AllU m) (k a : Int) : (Lit.int .u64 (plainV m k a)).wf = true := by
  have h0 : (Lit.int .u64 0).wf = true := by decide
  unfold plainV
  split
  · unfold wordV
    split
    · rw [List.getD_eq_getElem?_getD]
      cases h : m[a.toNat]? with
      | none => exact h0
      | some x => exact wm x (List.mem_of_getElem? h)
    · exact h0
  · exact h0
theorem zipT_ok : ∀ {ds : List D4} {m : List Int}, m.length = 64 → AllU m → (∀ d ∈ ds, d.Ok) → ∀ {x : T5}, x ∈ zipT m ds → x.Ok
  | [], _, _, _, _, x, h => by cases h
  | d :: ds, m, hm, wm, hd, x, h => by
    rcases List.mem_cons.1 h with rfl | h
    · refine ⟨hd d (by simp), ?_⟩
      show (Lit.int .u64 (plainV m d.k d.a)).wf = true
      exact plainV_wf wm d.k d.a
    · exact zipT_ok (by rw [plainM_len]; exact hm) (plainM_wf wm _ _ (hd d (by simp)).2.2.2) (fun d hd' => hd d (by simp [hd'])) h
def RelP (logs : List (List T5)) (ps : List Nat) (m : List Int) (n g : Nat) (W1 : World) (v i : Value) (wr : World) : Prop :=
  ∃ (j : Nat) (l : Array Obj) (d : Nat) (a : List Nat) (ts : List T5), j ≤ ps.length ∧ i = .int .i64 j ∧ wr = W1.later l d ∧ a.length = n ∧ (W1.later l d).ownsRow W1.heap.size 3 1 (.slice (some ⟨g, 0, none⟩) n n) n (atL a)
    ∧ (W1.later l d).ownsRow (g + 1) 39 5 v j (cellsT ts) ∧ ts.length = j ∧ legalB m ts = true ∧ (∀ x ∈ ts, badOf x.d = 0) ∧ Ord logs a (memT m ts) (ps.drop j)
def RelQ (n : Nat) (W1 : World) (l : Array Obj) (i : Value) (wr : World) : Prop := ∃ (j d : Nat), j ≤ n ∧ i = .int .i64 j ∧ wr = W1.later l d
def MidO (w : World) (o : Obj) (wx : World) : Prop := ∃ l d, wx = (w.alloc o).later l d
theorem ints_belowO {k : IntKind} {w w' : World} {a : Option Addr} {xs : List Int} (h : IntsAt k w a xs) (hb : Below w.heap.size w w') : IntsAt k w' a xs := by
  rcases h with h | ⟨b, off, h1, h2⟩
  · exact .inl h
  · refine .inr ⟨b, off, h1, fun i x hx => ?_⟩
    have h3 := h2 i x hx
    rw [hb.cell (p := ⟨b, _, none⟩) (table.lt_of_cell h3)]
    exact h3
theorem ints_form {k : IntKind} {w : World} {a : Option Addr} {xs : List Int} (h : IntsAt k w a xs) {i : Nat} {x : Int} (hx : xs[i]? = some x) : ∃ b off, a = some ⟨b, off, none⟩ ∧ w.cell? ⟨b, off + i, none⟩ = some (.int k x) := by
  rcases h with rfl | ⟨b, off, h1, h2⟩
  · cases hx
  · exact ⟨b, off, h1, h2 i x hx⟩

set_option maxHeartbeats 8000000 in
set_option maxRecDepth 100000 in
theorem walk_any (m : List Int) (hm : m.length = 64) (wm : AllU m) (ds : List D4) (hds : ∀ d ∈ ds, d.Ok) (da : Option Addr) (dn dc : Nat) (logs : List (List T5)) (hok : ∀ l ∈ logs, ∀ x ∈ l, x.Ok) (la : Option Addr) (n lc : Nat) (w : World)
    (hdn : ds.length = dn) (hdm : dn ≤ maxLen) (hD : DeedsAt w da ds) (hn : logs.length = n) (hmx : n ≤ maxLen) (hL : ListsAt ToldsAt w la logs) :
    Calls Try.prog 3 #[.agg (memA m), .slice da dn dc, .slice la n lc] w (Ret (.bool true) w) := by
  have s1 : (memA m).size = 64 := by rw [size_memA, hm]
  obtain ⟨s, hs⟩ : ∃ s, s = explS m logs := ⟨_, rfl⟩
  by_cases hE : explE logs = 0
  case neg =>
    -- X begin
    obtain ⟨E, hEE⟩ : ∃ E, E = explE logs := ⟨_, rfl⟩
    have hsn : explS m logs = none := if_neg hE
    have HX : Hid (∀ w, ListsAt ToldsAt w la logs → Calls Try.prog 9 #[.agg (memA m), .slice la n lc] w (ExplPost E none w)) := Lib.hid fun w h => by
      rw [hEE, ← hsn]; exact explain_any m hm wm logs hok la n lc w hn hmx h
    have hE1 : (E != 0) = true := by rw [hEE]; simpa using hE
    have HLL := Lib.hid hL
    have hil : (iL none).length = 0 := rfl
    unfold maxLen at hmx hdm
    clear hL hn hok hEE hE hsn hs hD hdn hds wm
    go_enter Try.func3, Try.ntmps3
    go_upto_region 5 with (first
      | ((with_reducible refine at_wp ?_); refine wpList_load_r rfl 26 _ rfl _ rfl 64 _ Try.underlying26 rfl (by kernel_rfl) (by (simp [go_sem, s1]; done)) ?_; intro C hC; simp [go_sem] at hC; subst hC)
      | (go_at_call 8; refine (orders_any _).mono ?_; rintro e w1 ⟨rfl, hb1⟩; obtain ⟨l0, d0, rfl⟩ := later_of hb1; clear hb1)
      | (go_at_call 9; refine (HX.out _ (ListsAt.below (Q := ToldsAt) (fun hb h => ToldsAt.below h hb) HLL.out (by repeat (first | exact Below.refl _ _ | apply bs_later | apply bs_alloc | apply bs_drew | apply bs_drewN)))).mono ?_; rintro e w1 ⟨v, rfl, hown, hb1⟩; obtain ⟨l1, d1, rfl⟩ := later_of hb1; obtain ⟨va, vc, hv⟩ := own_form hown; subst hv; have HO := Lib.hid hown; clear hb1 hown))
    clear HO hil
    go_wp2
    go_ret
    exact ⟨rfl, (by repeat (first | exact Below.refl _ _ | apply bs_later | apply bs_alloc | apply bs_drew | apply bs_drewN))⟩
    -- X end
  case pos =>
    obtain ⟨h8, hgood, hsum, hs12⟩ := explE_ok hE
    have hss : explS m logs = search logs (sumN logs) (List.replicate logs.length 0) m := by
      have : search logs (sumN logs) (List.replicate logs.length 0) m = search logs (sumN logs) zeros8 m := search_cong fun k hk => by unfold zeros8; rw [List.getElem?_replicate, List.getElem?_replicate, if_pos hk, if_pos (by omega)]
      rw [this]; exact if_pos hE
    have HX : Hid (∀ w, ListsAt ToldsAt w la logs → Calls Try.prog 9 #[.agg (memA m), .slice la n lc] w (ExplPost 0 s w)) := Lib.hid fun w h => by
      rw [hs, ← hE]; exact explain_any m hm wm logs hok la n lc w hn hmx h
    have HORD : Hid (∀ ps, s = some ps → Ord logs (List.replicate n 0) m ps ∧ ps.length ≤ 12) := Lib.hid fun ps hps => by
      have h1 : search logs (sumN logs) (List.replicate logs.length 0) m = some ps := by rw [← hss, ← hs]; exact hps
      have hl := left_zeros logs logs.length
      have hf : Fit logs (List.replicate logs.length 0) := fun k l hl => ⟨0, by rw [List.getElem?_replicate, if_pos (List.getElem?_eq_some_iff.1 hl).1], Nat.zero_le _⟩
      have h2 := search_sound hf hl h1
      have h3 := ord_len h2
      rw [hn] at h2
      exact ⟨h2, by omega⟩
    have HG : Hid (∀ l ∈ logs, l.length ≤ 12 ∧ ∀ x ∈ l, badOf x.d = 0) := Lib.hid hgood
    have HLL := Lib.hid hL
    have HN := Lib.hid hn
    have HM := Lib.hid hm
    have HWM := Lib.hid wm
    have HDS := Lib.hid hds
    have HDN := Lib.hid hdn
    have HDD := Lib.hid hD
    have hn8 : n ≤ 8 := by omega
    have hn8I : (n : Int) ≤ 8 := by omega
    unfold maxLen at hmx hdm
    clear hL hn hok hE hs hss hD hdn hds wm h8 hgood hsum hs12 hm
    go_enter Try.func3, Try.ntmps3
    go_upto_if 44 with (first
      | ((with_reducible refine at_wp ?_); refine wpList_load_r rfl 26 _ rfl _ rfl 64 _ Try.underlying26 rfl (by kernel_rfl) (by (simp [go_sem, s1]; done)) ?_; intro C hC; simp [go_sem] at hC; subst hC)
      | (go_at_call 8; refine (orders_any _).mono ?_; rintro e w1 ⟨rfl, hb1⟩; obtain ⟨l0, d0, rfl⟩ := later_of hb1; clear hb1)
      | (go_at_call 9; refine (HX.out _ (ListsAt.below (Q := ToldsAt) (fun hb h => ToldsAt.below h hb) HLL.out (by repeat (first | exact Below.refl _ _ | apply bs_later | apply bs_alloc | apply bs_drew | apply bs_drewN)))).mono ?_; rintro e w1 ⟨v, rfl, hown, hb1⟩; obtain ⟨l1, d1, rfl⟩ := later_of hb1; obtain ⟨va, vc, hv⟩ := own_form hown; subst hv; have HO := Lib.hid hown; clear hb1 hown))
    go_cut [7, 28, 31, 32, 44] (fun c7 c28 c31 c32 c44 wx => MidO w (.cells (memA m) 26) wx)
    case first =>
      obtain ⟨W1, hW⟩ : ∃ W1, W1 = (((w.alloc (.cells (memA m) 26)).later (l0 ++ l1) d1)) := ⟨_, rfl⟩
      have hb0 : Below w.heap.size w W1 := by rw [hW]; exact (by repeat (first | exact Below.refl _ _ | apply bs_later | apply bs_alloc | apply bs_drew | apply bs_drewN))
      have rM : okRow W1 w.heap.size 64 := by rw [hW]; simp [go_sem, s1]
      have qM : rowOf W1 w.heap.size = memA m := by rw [hW]; simp [go_sem]
      have hO := HO.out
      simp only [later_later] at hO
      rw [← hW] at hO
      simp only [later_later]
      rw [← hW]
      have HLW := Lib.hid (ListsAt.below (Q := ToldsAt) (fun hb h => ToldsAt.below h hb) HLL.out hb0)
      have HB0 := Lib.hid hb0
      have HQM := Lib.hid qM
      have HWW := Lib.hid hW
      have hinM : inB W1 w.heap.size := okRow_lt rM
      have HOI := Lib.hid (own_ints hO).2
      clear hW hb0 qM hO HO HX HLL HDD HDS HDN hdm
      cases s with
      | none =>
        -- N begin
        go_wp2
        go_meet
        case rel => exact ⟨_, _, HWW.out⟩
        -- N end
      | some ps =>
        obtain ⟨hord, hps12⟩ := HORD.out ps rfl
        have hil := iL_len ps
        rw [hil]
        have HPO := Lib.hid hord
        obtain ⟨i0, hi, hz0, hz1, hz2⟩ := info_parts info_intF
        clear hord hil HORD
        go_wp2_with (at_make; refine wpList_make_full _ rfl _ _ 30 rfl W1.heap.size 3 i0 _ 1 Try.underlying30 hi hz0 hz1 .i64 .i64 _ _ n rfl rfl rfl rfl (by rw [hz2]; omega) (by unfold maxLen; omega) (Nat.le_refl _) ?_; intro w2 hown2 hgrow2; have hb2 := below_grown (W0 := W1) (Below.refl _ _) hgrow2 (fun k hk => by cases hk); have HO2 := Lib.hid hown2; obtain ⟨l2, d2, rfl⟩ := later_of hb2; clear hown2 hgrow2 hb2)
        have HO3 : Hid ((W1.later l2 d2).ownsRow W1.heap.size 3 1 (.slice (some ⟨W1.heap.size, 0, none⟩) n n) n (atL (List.replicate n 0))) := Lib.hid (by rw [← made_atL]; exact HO2.out)
        obtain ⟨g, hg⟩ : ∃ g, g = W1.heap.size := ⟨_, rfl⟩
        have HGG : Hid (W1.heap.size ≤ g) := Lib.hid (by omega)
        rw [← hg]
        have hO3 := HO3.out
        rw [← hg] at hO3
        have HO4 := Lib.hid (ownsRow_le (base' := W1.heap.size) hO3 HGG.out)
        clear HO2 HO3 hO3 hg hi hz0 hz1 hz2 i0
        have hgI : farB W1 l2 g := by have h := (HO4.out.lt g rfl).2; simpa [farB] using h
        have hps12I : (ps.length : Int) ≤ 12 := by omega
        obtain ⟨i4, ji, jz0, jz1, jz2⟩ := info_parts info_toldO
        clear hgI
        go_loopw [11, 50] (RelP logs ps m n g W1) (fun _ i _ => ps.length - (intOf i).toNat)
        case atStart => exact ⟨0, l2, d2, _, [], Nat.zero_le _, rfl, rfl, List.length_replicate .., HO4.out, World.ownsRow_nil _ _ _ _, rfl, rfl, (fun x hx => nomatch hx), HPO.out⟩
        case round =>
          clear HO4 HPO
          obtain ⟨j, l, d, a, ts, hj, rfl, rfl, hal, hat, hrow, htl, hleg, hgd, hord⟩ := hrel
          obtain ⟨ra, rc, hrv⟩ := own_form hrow
          subst hrv
          by_cases hlt : j < ps.length
          · skip
            -- P begin
            obtain ⟨k, hk⟩ := get_some hlt
            have hdrop : ps.drop j = k :: ps.drop (j + 1) := by
              obtain ⟨h1, h2⟩ := List.getElem?_eq_some_iff.1 hk
              rw [List.drop_eq_getElem_cons h1, h2]
            rw [hdrop] at hord
            obtain ⟨t, hst, hord2⟩ := ord_inv hord
            obtain ⟨lg, i, hlg, hai, hx, hpv⟩ := stepK_inv hst
            have hkn : k < n := by rw [← HN.out]; exact (List.getElem?_eq_some_iff.1 hlg).1
            have hilt : i < lg.length := (List.getElem?_eq_some_iff.1 hx).1
            obtain ⟨hl12, hbad⟩ := HG.out lg (List.mem_of_getElem? hlg)
            obtain ⟨bp, offp, hva, cp⟩ := ints_form HOI.out (iL_get hk)
            subst hva
            have hinp : inB W1 bp := table.lt_of_cell cp
            obtain ⟨b, off, hla⟩ := ListsAt.form HLW.out hlg
            subst hla
            obtain ⟨p, pc, e0, q1, q2, q3, q4⟩ := ListsAt.at HLW.out hlg
            have hinb : inB W1 b := table.lt_of_cell e0
            obtain ⟨b2, off2, hp⟩ := ToldsAt.form q4 hx
            subst hp
            obtain ⟨f0, f1, f2, f3, f4⟩ := ToldsAt.at q4 hx
            have hinx : inB W1 b2 := table.lt_of_cell f0
            have m0 : ∀ d', (W1.later l d').cell? ⟨g, k, none⟩ = some (.int .i64 (i : Int)) := fun d' => by rw [(own_dO hat d').cellAt k (by omega)]; exact atL_get hai
            have mf0 : ∀ d', (W1.later l d').frozen? ⟨g, k, none⟩ = false := fun d' => (own_dO hat d').frozenAt k
            have hgf : farB W1 l g := by have h := (hat.lt g rfl).2; simpa [farB] using h
            have HAO := Lib.hid hat
            have HRO := Lib.hid hrow
            have HNE := Lib.hid (own_neO hrow)
            have HJ : Hid (j + 1 ≤ ps.length) := Lib.hid hlt
            have HNX : Hid (cellsT (ts ++ [t]) = cellsT ts ++ t.cells ∧ (ts ++ [t]).length = j + 1 ∧ legalB m (ts ++ [t]) = true ∧ (∀ x ∈ ts ++ [t], badOf x.d = 0) ∧ Ord logs (bump a k) (memT m (ts ++ [t])) (ps.drop (j + 1)) ∧ (bump a k).length = n ∧ atL (bump a k) = (atL a).set k (.int .i64 ((i : Int) + 1))) := Lib.hid
              ⟨cellsT_snoc ts t, by rw [List.length_append, htl]; rfl, legal_next hleg hpv, fun x hx' => (by
                rcases List.mem_append.1 hx' with h | h
                · exact hgd x h
                · obtain rfl := List.mem_singleton.1 h
                  exact hbad x (List.mem_of_getElem? hx)), by rw [memT_snoc]; exact hord2, by rw [len_bump]; exact hal, by rw [bump_eq hai, atL_set]; rfl⟩
            have hkI : (k : Int) < n := by omega
            have hkI2 : ¬ (n : Int) ≤ k := by omega
            have hk2 : ¬ n ≤ k := by omega
            have hiI : (i : Int) < lg.length := by omega
            have hiI2 : ¬ (lg.length : Int) ≤ i := by omega
            have hi2 : ¬ lg.length ≤ i := by omega
            have hi12 : (i : Int) ≤ 12 := by omega
            have hl12I : (lg.length : Int) ≤ 12 := by omega
            have hjI : (j : Int) < ps.length := by omega
            have HCI : Hid (∀ d', ((W1.later l d').ownsRow (g + 1) 39 5 (.slice ra j rc) j (cellsT ts))) := Lib.hid fun d' => hrow
            obtain ⟨⟨tn, tk, ta, tv⟩, tu⟩ := t
            simp only at f0 f1 f2 f3 f4
            clear hk hdrop hord hst hord2 hlg hai hx hpv hbad q3 q4 hat hrow htl hleg hgd hal
            go_upto_region 12 with (fail)
            go_quiet (fail)
            go_upto_region 14 with (fail)
            -- Q begin
            refine wp_region_any (by kernel_rfl) ?_
            try (change wpAny _ _ _ _ _ _ _ (World.drew _))
            refine wpAny_take (i := 0) (v := ?v0s) rfl (by kernel_rfl) (by kernel_rfl) (by kernel_rfl) (fun _ _ _ h => h) (Or.inl ⟨by rfl, ?y0s⟩) ?r0s
            case y0s => intro w; go_simp; with_reducible rfl
            try simp only [Act.put, List.getElem_toArray, List.getElem_cons_succ, List.getElem_cons_zero, List.setIfInBounds_toArray, List.set_cons_zero, List.set_cons_succ]
            refine wpAny_take (i := 1) (v := ?v1s) rfl (by kernel_rfl) (by kernel_rfl) (by kernel_rfl) (fun _ _ _ h => h) (Or.inl ⟨by rfl, ?y1s⟩) ?r1s
            case y1s => intro w; go_simp; with_reducible rfl
            try simp only [Act.put, List.getElem_toArray, List.getElem_cons_succ, List.getElem_cons_zero, List.setIfInBounds_toArray, List.set_cons_zero, List.set_cons_succ]
            refine wpAny_take (i := 2) (v := ?v2s) rfl (by kernel_rfl) (by kernel_rfl) (by kernel_rfl) (fun _ _ _ h => h) (Or.inl ⟨by rfl, ?y2s⟩) ?r2s
            case y2s => intro w; go_simp; with_reducible rfl
            try simp only [Act.put, List.getElem_toArray, List.getElem_cons_succ, List.getElem_cons_zero, List.setIfInBounds_toArray, List.set_cons_zero, List.set_cons_succ]
            refine wpAny_take (i := 3) (v := ?v3s) rfl (by kernel_rfl) (by kernel_rfl) (by kernel_rfl) (fun _ _ _ h => h) (Or.inl ⟨by rfl, ?y3s⟩) ?r3s
            case y3s => intro w; go_simp; with_reducible rfl
            try simp only [Act.put, List.getElem_toArray, List.getElem_cons_succ, List.getElem_cons_zero, List.setIfInBounds_toArray, List.set_cons_zero, List.set_cons_succ]
            refine wpAny_take (i := 5) (v := ?v5s) rfl (by kernel_rfl) (by kernel_rfl) (by kernel_rfl) (fun _ _ _ h => h) (Or.inl ⟨by rfl, ?y5s⟩) ?r5s
            case y5s => intro w; go_simp; with_reducible rfl
            try simp only [Act.put, List.getElem_toArray, List.getElem_cons_succ, List.getElem_cons_zero, List.setIfInBounds_toArray, List.set_cons_zero, List.set_cons_succ]
            refine wpAny_take (i := 6) (v := ?v6s) rfl (by kernel_rfl) (by kernel_rfl) (by kernel_rfl) (fun _ _ _ h => h) (Or.inl ⟨by rfl, ?y6s⟩) ?r6s
            case y6s => intro w; go_simp; with_reducible rfl
            try simp only [Act.put, List.getElem_toArray, List.getElem_cons_succ, List.getElem_cons_zero, List.setIfInBounds_toArray, List.set_cons_zero, List.set_cons_succ]
            refine wpAny_take (i := 7) (v := ?v7s) rfl (by kernel_rfl) (by kernel_rfl) (by kernel_rfl) (fun _ _ _ h => h) (Or.inl ⟨by rfl, ?y7s⟩) ?r7s
            case y7s => intro w; go_simp; with_reducible rfl
            try simp only [Act.put, List.getElem_toArray, List.getElem_cons_succ, List.getElem_cons_zero, List.setIfInBounds_toArray, List.set_cons_zero, List.set_cons_succ]
            refine wpAny_ready (rs := [4, 8]) (by kernel_rfl) (by simp) ?_
            refine AllReady.cons rfl (fun K hK => ?_) (AllReady.cons rfl (fun K hK => ?_) AllReady.nil)
            · go_simp
              refine hK _ _ ?_
              clear hK K
              try simp only [Act.put, List.getElem_toArray, List.getElem_cons_succ, List.getElem_cons_zero, List.setIfInBounds_toArray, List.set_cons_zero, List.set_cons_succ]
              refine wpAny_ready (rs := [8]) (by kernel_rfl) (by simp) ?_
              refine AllReady.cons rfl (fun K hK => ?_) AllReady.nil
              go_simp
              refine hK _ _ ?_
              clear hK K
              try simp only [Act.put, List.getElem_toArray, List.getElem_cons_succ, List.getElem_cons_zero, List.setIfInBounds_toArray, List.set_cons_zero, List.set_cons_succ]
              refine wpAny_take (i := 9) (v := ?v9a) rfl (by kernel_rfl) (by kernel_rfl) (by kernel_rfl) (fun _ _ _ h => h) (Or.inl ⟨by rfl, ?y9a⟩) ?r9a
              case y9a => intro w; go_simp; with_reducible rfl
              try simp only [Act.put, List.getElem_toArray, List.getElem_cons_succ, List.getElem_cons_zero, List.setIfInBounds_toArray, List.set_cons_zero, List.set_cons_succ]
              refine wpAny_ready (rs := [10]) (by kernel_rfl) (by simp) ?_
              refine AllReady.cons rfl (fun K hK => ?_) AllReady.nil
              go_simp
              refine hK _ _ ?_
              clear hK K
              try simp only [Act.put, List.getElem_toArray, List.getElem_cons_succ, List.getElem_cons_zero, List.setIfInBounds_toArray, List.set_cons_zero, List.set_cons_succ]
              refine wpAny_ready (rs := [11]) (by kernel_rfl) (by simp) ?_
              refine AllReady.cons rfl (fun K hK => ?_) AllReady.nil
              go_simp
              refine hK _ _ ?_
              clear hK K
              try simp only [Act.put, List.getElem_toArray, List.getElem_cons_succ, List.getElem_cons_zero, List.setIfInBounds_toArray, List.set_cons_zero, List.set_cons_succ]
              refine wpAny_ready (rs := [12]) (by kernel_rfl) (by simp) ?_
              refine AllReady.cons rfl (fun K hK => ?_) AllReady.nil
              refine step_append_lies _ rfl _ _ 34 rfl (g + 1) 39 i4 _ 5 40 Try.underlying34 ji jz0 jz1 jz2 rfl (by decide) _ _ _ rfl ((HCI.out _).alloc _) ⟨_, 0, none⟩ 1 1 [.int .i64 tn, .int .i64 tk, .int .i64 ta, .int .u64 tv, .int .u64 tu] rfl rfl ?c1a ?c2a (by decide) ?c3a ?c4a ?c5a _ rfl ?_
              case c1a => exact fun j u h => five_newO (by simp) j u h
              case c2a => intro u hu; simp at hu; rcases hu with rfl | rfl | rfl | rfl | rfl <;> rfl
              case c3a => unfold maxLen; omega
              case c4a => omega
              case c5a => have h := (HAO.out.lt g rfl).2; simp at h; simp; omega
              intro b5 c5 w1 hown5 hgrow hat5 hlt5
              have hb5 := below_grown (W0 := W1) (by repeat (first | exact Below.refl _ _ | apply bs_later | apply bs_alloc | apply bs_drew | apply bs_drewN)) hgrow (fun g' hg' => by have h := (HRO.out.lt g' hg').1; have := HGG.out; omega)
              have hown6 := ((own_dO HAO.out _).alloc _).kept hgrow (.inr (fun h => HNE.out h.symm))
              obtain ⟨l5, d5, rfl⟩ := later_of hb5
              have m5 : (W1.later l5 d5).cell? ⟨g, k, none⟩ = some (.int .i64 (i : Int)) := (by rw [hown6.cellAt k (by omega), ← HAO.out.cellAt k (by omega)]; exact m0 d)
              have mf5 := hown6.frozenAt k
              have mgf5 : farB W1 l5 g := (by have h := (hown6.lt g rfl).2; simpa [farB] using h)
              obtain ⟨l6, d6, e6, -, h6⟩ := own_storeO hown6 (Nat.le_refl _) HGG.out k (.int .i64 ((i : Int) + 1))
              have hr6 := hown5.kept (hown6.stored k (.int .i64 ((i : Int) + 1))).2 (.inr (own_neO hown5))
              rw [e6] at hr6
              have HA6 := Lib.hid h6
              have HR6 := Lib.hid hr6
              clear hown5 hgrow hat5 hlt5 hb5 hown6 h6 hr6
              refine hK _ _ ?_
              clear hK K
              try simp only [Act.put, List.getElem_toArray, List.getElem_cons_succ, List.getElem_cons_zero, List.setIfInBounds_toArray, List.set_cons_zero, List.set_cons_succ]
              refine wpAny_take (i := 13) (v := ?v13a) rfl (by kernel_rfl) (by kernel_rfl) (by kernel_rfl) (fun _ _ _ h => h) (Or.inl ⟨by rfl, ?y13a⟩) ?r13a
              case y13a => intro w; go_simp; with_reducible rfl
              try simp only [Act.put, List.getElem_toArray, List.getElem_cons_succ, List.getElem_cons_zero, List.setIfInBounds_toArray, List.set_cons_zero, List.set_cons_succ]
              refine wpAny_done (by kernel_rfl) ?_ _
              go_wp2
              exact ⟨⟨j + 1, _, _, bump a k, ts ++ [⟨⟨tn, tk, ta, tv⟩, tu⟩], HJ.out, by go_num, rfl, HNX.out.2.2.2.2.2.1, by rw [HNX.out.2.2.2.2.2.2]; exact HA6.out, by rw [HNX.out.1]; exact HR6.out, HNX.out.2.1, HNX.out.2.2.1, HNX.out.2.2.2.1, HNX.out.2.2.2.2.1⟩, by simp [intOf]; omega⟩
            · go_simp
              refine hK _ _ ?_
              clear hK K
              try simp only [Act.put, List.getElem_toArray, List.getElem_cons_succ, List.getElem_cons_zero, List.setIfInBounds_toArray, List.set_cons_zero, List.set_cons_succ]
              refine wpAny_ready (rs := [4]) (by kernel_rfl) (by simp) ?_
              refine AllReady.cons rfl (fun K hK => ?_) AllReady.nil
              go_simp
              refine hK _ _ ?_
              clear hK K
              try simp only [Act.put, List.getElem_toArray, List.getElem_cons_succ, List.getElem_cons_zero, List.setIfInBounds_toArray, List.set_cons_zero, List.set_cons_succ]
              refine wpAny_take (i := 9) (v := ?v9b) rfl (by kernel_rfl) (by kernel_rfl) (by kernel_rfl) (fun _ _ _ h => h) (Or.inl ⟨by rfl, ?y9b⟩) ?r9b
              case y9b => intro w; go_simp; with_reducible rfl
              try simp only [Act.put, List.getElem_toArray, List.getElem_cons_succ, List.getElem_cons_zero, List.setIfInBounds_toArray, List.set_cons_zero, List.set_cons_succ]
              refine wpAny_ready (rs := [10]) (by kernel_rfl) (by simp) ?_
              refine AllReady.cons rfl (fun K hK => ?_) AllReady.nil
              go_simp
              refine hK _ _ ?_
              clear hK K
              try simp only [Act.put, List.getElem_toArray, List.getElem_cons_succ, List.getElem_cons_zero, List.setIfInBounds_toArray, List.set_cons_zero, List.set_cons_succ]
              refine wpAny_ready (rs := [11]) (by kernel_rfl) (by simp) ?_
              refine AllReady.cons rfl (fun K hK => ?_) AllReady.nil
              go_simp
              refine hK _ _ ?_
              clear hK K
              try simp only [Act.put, List.getElem_toArray, List.getElem_cons_succ, List.getElem_cons_zero, List.setIfInBounds_toArray, List.set_cons_zero, List.set_cons_succ]
              refine wpAny_ready (rs := [12]) (by kernel_rfl) (by simp) ?_
              refine AllReady.cons rfl (fun K hK => ?_) AllReady.nil
              refine step_append_lies _ rfl _ _ 34 rfl (g + 1) 39 i4 _ 5 40 Try.underlying34 ji jz0 jz1 jz2 rfl (by decide) _ _ _ rfl ((HCI.out _).alloc _) ⟨_, 0, none⟩ 1 1 [.int .i64 tn, .int .i64 tk, .int .i64 ta, .int .u64 tv, .int .u64 tu] rfl rfl ?c1b ?c2b (by decide) ?c3b ?c4b ?c5b _ rfl ?_
              case c1b => exact fun j u h => five_newO (by simp) j u h
              case c2b => intro u hu; simp at hu; rcases hu with rfl | rfl | rfl | rfl | rfl <;> rfl
              case c3b => unfold maxLen; omega
              case c4b => omega
              case c5b => have h := (HAO.out.lt g rfl).2; simp at h; simp; omega
              intro b5 c5 w1 hown5 hgrow hat5 hlt5
              have hb5 := below_grown (W0 := W1) (by repeat (first | exact Below.refl _ _ | apply bs_later | apply bs_alloc | apply bs_drew | apply bs_drewN)) hgrow (fun g' hg' => by have h := (HRO.out.lt g' hg').1; have := HGG.out; omega)
              have hown6 := ((own_dO HAO.out _).alloc _).kept hgrow (.inr (fun h => HNE.out h.symm))
              obtain ⟨l5, d5, rfl⟩ := later_of hb5
              have m5 : (W1.later l5 d5).cell? ⟨g, k, none⟩ = some (.int .i64 (i : Int)) := (by rw [hown6.cellAt k (by omega), ← HAO.out.cellAt k (by omega)]; exact m0 d)
              have mf5 := hown6.frozenAt k
              have mgf5 : farB W1 l5 g := (by have h := (hown6.lt g rfl).2; simpa [farB] using h)
              obtain ⟨l6, d6, e6, -, h6⟩ := own_storeO hown6 (Nat.le_refl _) HGG.out k (.int .i64 ((i : Int) + 1))
              have hr6 := hown5.kept (hown6.stored k (.int .i64 ((i : Int) + 1))).2 (.inr (own_neO hown5))
              rw [e6] at hr6
              have HA6 := Lib.hid h6
              have HR6 := Lib.hid hr6
              clear hown5 hgrow hat5 hlt5 hb5 hown6 h6 hr6
              refine hK _ _ ?_
              clear hK K
              try simp only [Act.put, List.getElem_toArray, List.getElem_cons_succ, List.getElem_cons_zero, List.setIfInBounds_toArray, List.set_cons_zero, List.set_cons_succ]
              refine wpAny_take (i := 13) (v := ?v13b) rfl (by kernel_rfl) (by kernel_rfl) (by kernel_rfl) (fun _ _ _ h => h) (Or.inl ⟨by rfl, ?y13b⟩) ?r13b
              case y13b => intro w; go_simp; with_reducible rfl
              try simp only [Act.put, List.getElem_toArray, List.getElem_cons_succ, List.getElem_cons_zero, List.setIfInBounds_toArray, List.set_cons_zero, List.set_cons_succ]
              refine wpAny_done (by kernel_rfl) ?_ _
              go_wp2
              exact ⟨⟨j + 1, _, _, bump a k, ts ++ [⟨⟨tn, tk, ta, tv⟩, tu⟩], HJ.out, by go_num, rfl, HNX.out.2.2.2.2.2.1, by rw [HNX.out.2.2.2.2.2.2]; exact HA6.out, by rw [HNX.out.1]; exact HR6.out, HNX.out.2.1, HNX.out.2.2.1, HNX.out.2.2.2.1, HNX.out.2.2.2.2.1⟩, by simp [intOf]; omega⟩
            -- Q end
            -- P end
          · obtain rfl : j = ps.length := by omega
            rw [List.drop_of_length_le (Nat.le_refl _)] at hord
            have hend := ord_end hord
            have hts := told_fine hleg hgd (by omega)
            rw [← htl] at hrow
            have HT : Hid (∀ d', ToldsAt (W1.later l d') ra ts) := Lib.hid fun d' => own_tolds (own_dO hrow d')
            have HAO := Lib.hid hat
            have HEND := Lib.hid hend
            have HTS := Lib.hid hts
            have HTL := Lib.hid htl
            have hgf : farB W1 l g := by have h := (hat.lt g rfl).2; simpa [farB] using h
            clear hord hend hts hrow hat htl hleg hgd hal hlt hj
            -- R begin
            go_wp2
            go_loopw [96] (RelQ n W1 l) (fun i _ => n - (intOf i).toNat)
            case atStart => exact ⟨0, d, Nat.zero_le _, rfl, rfl⟩
            case round =>
              obtain ⟨j, d, hj, rfl, rfl⟩ := hrel
              by_cases hlt : j < n
              · obtain ⟨lg, hlg⟩ := get_some (xs := logs) (k := j) (by rw [HN.out]; exact hlt)
                obtain ⟨b, off, hla⟩ := ListsAt.form HLW.out hlg
                subst hla
                obtain ⟨p, pc, e0, q1, q2, q3, q4⟩ := ListsAt.at HLW.out hlg
                have hinb : inB W1 b := table.lt_of_cell e0
                have m0 : ∀ d', (W1.later l d').cell? ⟨g, j, none⟩ = some (.int .i64 (lg.length : Int)) := fun d' => by rw [(own_dO HAO.out d').cellAt j (by omega)]; exact atL_get (HEND.out j lg hlg)
                have hjI : (j : Int) < n := by omega
                have hee : ((lg.length : Int) != (lg.length : Int)) = false := by simp
                have HJ : Hid (j + 1 ≤ n) := Lib.hid hlt
                clear hlg q3 q4 hj
                go_upto_region 20 with (fail)
                go_quiet (fail)
                go_wp2
                go_roundw
                case rel => exact ⟨j + 1, _, HJ.out, by go_num, rfl⟩
                case measure => simp [intOf]; omega
              · obtain rfl : j = n := by omega
                obtain ⟨hlr, hte⟩ := HTS.out
                have PL := fun w h => legal_any m HM.out ts ra ts.length rc w (by have := HTL.out; unfold maxLen; omega) rfl h
                rw [hlr, hte, HTL.out] at PL
                have HPL := Lib.hid PL
                clear hlr hte PL hlt hj
                go_wp2_with (first
                  | ((with_reducible refine at_wp ?_); refine wpList_load_r rfl 26 _ rfl _ rfl 64 _ Try.underlying26 rfl (by kernel_rfl) (by (simp [go_sem, rM, hinM]; done)) ?_; intro C hC; simp [go_sem, hinM, HQM.out] at hC; subst hC)
                  | (go_at_call 10; refine (HPL.out _ (HT.out _)).mono ?_; rintro e w1 ⟨rfl, hb1⟩; obtain ⟨l7, d7, rfl⟩ := later_of hb1; clear hb1))
                go_meet
                case rel => exact ⟨_, _, by rw [later_later, HWW.out, later_later]⟩
            -- R end
    case rest =>
      obtain ⟨l, d, hwc⟩ := hcut
      subst hwc
      obtain ⟨W3, hW⟩ : ∃ W3, W3 = (w.alloc (.cells (memA m) 26)).later l d := ⟨_, rfl⟩
      have hb0 : Below w.heap.size w W3 := by rw [hW]; exact (by repeat (first | exact Below.refl _ _ | apply bs_later | apply bs_alloc | apply bs_drew | apply bs_drewN))
      have rM : okRow W3 w.heap.size 64 := by rw [hW]; simp [go_sem, s1]
      have qM : rowOf W3 w.heap.size = memA m := by rw [hW]; simp [go_sem]
      rw [← hW]
      have HD3 : Hid (DeedsAt W3 da ds) := Lib.hid (DeedsAt.below HDD.out hb0)
      have HB0 := Lib.hid hb0
      have HQM := Lib.hid qM
      have hinM : inB W3 w.heap.size := okRow_lt rM
      have HPY : Hid (∀ w, DeedsAt w da ds → Calls Try.prog 11 #[.agg (memA m), .slice da dn dc] w (RetPlayE (outM m ds) (outV m ds) (playE ds) w)) := Lib.hid fun w h => play_any m HM.out ds da dn dc w (by unfold maxLen; omega) HDN.out h
      have hzl : (outM m ds).length = 64 := outM_len HM.out ds
      have HSZ : Hid ((memA (outM m ds)).size = 64) := Lib.hid (by rw [size_memA, hzl])
      clear hW hb0 qM HO HX HORD HLL HG HDD s1 hzl HN
      by_cases h12 : 12 < dn
      · -- A begin
        have h12I : (12 : Int) < dn := by omega
        clear HPY HSZ HD3
        go_wp2
        go_ret
        exact ⟨rfl, range.below_trans HB0.out (by repeat (first | exact Below.refl _ _ | apply bs_later | apply bs_alloc | apply bs_drew | apply bs_drewN))⟩
        -- A end
      · have h12I : ¬ (12 : Int) < dn := by omega
        have h12N : dn ≤ 12 := by omega
        by_cases hP : playE ds = 0
        case neg =>
          -- B begin
          have hP1 : (playE ds != 0) = true := by simpa using hP
          generalize playE ds = E at *
          generalize outM m ds = zs at *
          generalize outV m ds = vs at *
          clear hP
          go_wp2_with (first
            | ((with_reducible refine at_wp ?_); refine wpList_load_r rfl 26 _ rfl _ rfl 64 _ Try.underlying26 rfl (by kernel_rfl) (by (simp [go_sem, rM, hinM]; done)) ?_; intro C hC; simp [go_sem, hinM, HQM.out] at hC; subst hC)
            | ((with_reducible refine at_wp ?_); refine wpList_store_r rfl 26 _ _ rfl _ rfl _ rfl 64 (by kernel_rfl) (by (simp [go_sem, HSZ.out]; done)) (by (simp [HSZ.out]; done)) (memA_one _) ?_; intro W' hW'; simp [go_sem] at hW'; subst hW')
            | (go_at_call 11; refine (HPY.out _ (DeedsAt.below HD3.out (by repeat (first | exact Below.refl _ _ | apply bs_later | apply bs_alloc | apply bs_drew | apply bs_drewN)))).mono ?_; rintro e w1 ⟨tv, rfl, hown, hb1⟩; obtain ⟨l4, d4, rfl⟩ := later_of hb1; obtain ⟨ta, tc, htv⟩ := own_form hown; subst htv; have HTO := Lib.hid hown; clear hb1 hown))
          go_ret
          exact ⟨rfl, range.below_trans HB0.out (by repeat (first | exact Below.refl _ _ | apply bs_later | apply bs_alloc | apply bs_drew | apply bs_drewN))⟩
          -- B end
        case pos =>
          have hvs : outV m ds = playV m ds := if_pos hP
          have hfb : firstBad ds = 0 := by unfold playE at hP; split at hP; cases hP; exact hP
          have HTS : Hid ((zipT m ds).length = dn ∧ (∀ x ∈ zipT m ds, badOf x.d = 0) ∧ legalB m (zipT m ds) = true ∧ (∀ x ∈ zipT m ds, x.Ok)) := Lib.hid ⟨by rw [zipT_len, HDN.out], fun x hx => firstBad_mem hfb x.d (zipT_mem hx), zipT_legal ds m, fun x hx => zipT_ok HM.out HWM.out HDS.out hx⟩
          have HZG : Hid (∀ (i : Nat) (x : T5), (zipT m ds)[i]? = some x → ds[i]? = some x.d ∧ (outV m ds)[i]? = some x.u) := Lib.hid fun i x h => by rw [hvs]; exact zipT_get ds m i x h
          have HVL : Hid ((outV m ds).length = dn) := Lib.hid (by rw [hvs, playV_len, HDN.out])
          rw [hP] at HPY
          generalize zipT m ds = ts at *
          generalize outM m ds = zs at *
          generalize outV m ds = vs at *
          clear hP hvs hfb
          obtain ⟨i1, hi, hz0, hz1, hz2⟩ := info_parts info_logsO
          go_wp2_with (first
            | ((with_reducible refine at_wp ?_); refine wpList_load_r rfl 26 _ rfl _ rfl 64 _ Try.underlying26 rfl (by kernel_rfl) (by (simp [go_sem, rM, hinM]; done)) ?_; intro C hC; simp [go_sem, hinM, HQM.out] at hC; subst hC)
            | ((with_reducible refine at_wp ?_); refine wpList_store_r rfl 26 _ _ rfl _ rfl _ rfl 64 (by kernel_rfl) (by (simp [go_sem, HSZ.out]; done)) (by (simp [HSZ.out]; done)) (memA_one _) ?_; intro W' hW'; simp [go_sem] at hW'; subst hW')
            | (go_at_call 11; refine (HPY.out _ (DeedsAt.below HD3.out (by repeat (first | exact Below.refl _ _ | apply bs_later | apply bs_alloc | apply bs_drew | apply bs_drewN)))).mono ?_; rintro e w1 ⟨tv, rfl, hown, hb1⟩; obtain ⟨l4, d4, rfl⟩ := later_of hb1; obtain ⟨ta, tc, htv⟩ := own_form hown; subst htv; have HTO := Lib.hid hown; clear hb1 hown)
            | (at_make; refine wpList_make_full _ rfl _ _ 28 rfl ((W3.later l4 d4).heap.size + 1) 34 i1 _ 1 Try.underlying28 hi hz0 hz1 .i64 .i64 _ _ 8 rfl rfl rfl rfl (by rw [hz2]; omega) (by unfold maxLen; omega) (by first | (simp; done) | (simp; omega)) ?_; intro w2 hown2 hgrow2; have hb2 := below_grown (W0 := (W3.later l4 d4).alloc (.cells (memA zs) 26)) (Below.refl _ _) hgrow2 (fun k hk => by cases hk); have HO2 := Lib.hid hown2; obtain ⟨l2, d2, rfl⟩ := later_of hb2; clear hown2 hgrow2 hb2))
          obtain ⟨W4, hW4⟩ : ∃ W4, W4 = (W3.later l4 d4).alloc (.cells (memA zs) 26) := ⟨_, rfl⟩
          have hb4 : Below W3.heap.size W3 W4 := by rw [hW4]; exact (by repeat (first | exact Below.refl _ _ | apply bs_later | apply bs_alloc | apply bs_drew | apply bs_drewN))
          have hO2 := HO2.out
          rw [made_nilsO, ← hW4] at hO2
          have hsz4 : W3.heap.size + l4.size + 1 = W4.heap.size := by rw [hW4]; simp
          have hO4 : (W4.later l2 d2).ownsRow W4.heap.size 34 1 (.slice (some ⟨W4.heap.size, 0, none⟩) 8 8) 8 (List.replicate 8 (.slice none 0 0)) := by
            have h := ownsRow_le (base' := W4.heap.size) hO2 (by rw [hW4]; simp)
            exact h
          have hTO := HTO.out
          have HTI : Hid (IntsAt .u64 W4 ta vs) := Lib.hid (ints_belowO (own_ints hTO).2 (by rw [hW4]; exact (by repeat (first | exact Below.refl _ _ | apply bs_later | apply bs_alloc | apply bs_drew | apply bs_drewN))))
          have HD4 : Hid (DeedsAt W4 da ds) := Lib.hid (DeedsAt.below HD3.out hb4)
          have rM4 : okRow W4 w.heap.size 64 := by rw [hW4]; simp [go_sem, rM, hinM]
          have qM4 : rowOf W4 w.heap.size = memA m := by rw [hW4]; simp [go_sem, hinM, HQM.out]
          have HB4 := Lib.hid (range.below_trans HB0.out hb4)
          rw [← hW4, hsz4]
          obtain ⟨g, hg⟩ : ∃ g, g = W4.heap.size := ⟨_, rfl⟩
          have HGG : Hid (W4.heap.size ≤ g) := Lib.hid (by omega)
          rw [← hg] at hO4 ⊢
          have HO4 : Hid ((W4.later l2 d2).ownsRow W4.heap.size 34 1 (.slice (some ⟨g, 0, none⟩) 8 8) 8 (List.replicate 8 (.slice none 0 0))) := Lib.hid (ownsRow_le hO4 HGG.out)
          have HQM4 := Lib.hid qM4
          have hinM4 : inB W4 w.heap.size := okRow_lt rM4
          have hvlI : vs.length = dn := HVL.out
          clear hW4 hb4 hO2 hTO hO4 hsz4 qM4 hg hi hz0 hz1 hz2 i1 HO2 HTO HD3 HB0 HQM rM hinM HPY HSZ
          rw [hvlI]
          clear hvlI
          obtain ⟨i4, ji, jz0, jz1, jz2⟩ := info_parts info_toldO
          go_loopw [137] (RelM ts 8 g 34 39 W4) (fun i _ => dn - (intOf i).toNat)
          case atStart => exact ⟨0, l2, d2, _, Nat.zero_le _, rfl, rfl, HO4.out, by rw [List.take_zero, rowsF_nil]; exact OwnRows.nils _ _ _ _ _⟩
          case round =>
            clear HO4
            obtain ⟨j, l, d, us, hj, rfl, rfl, hown, hrows⟩ := hrel
            by_cases hlt : j < dn
            · -- L begin
              obtain ⟨x, hx⟩ := get_some (xs := ts) (k := j) (by rw [HTS.out.1]; exact hlt)
              obtain ⟨hdx, hvx⟩ := HZG.out j x hx
              obtain ⟨bq, offq, hda⟩ := deeds_form HD4.out hdx
              subst hda
              obtain ⟨e0, e1, e2, e3⟩ := DeedsAt.at HD4.out hdx
              have hin3 : inB W4 bq := table.lt_of_cell e0
              obtain ⟨bt, offt, hta, ct⟩ := ints_form HTI.out hvx
              subst hta
              have hint : inB W4 bt := table.lt_of_cell ct
              have hnode := (right_pos (HTS.out.2.1 x (List.mem_of_getElem? hx))).1
              have HJ : Hid (j + 1 ≤ ts.length) := Lib.hid (by rw [HTS.out.1]; exact hlt)
              have hgf : farB W4 l g := by have h := (hown.lt g rfl).2; simpa [farB] using h
              have HAO := Lib.hid hown
              have HRO := Lib.hid hrows
              have HTK : Hid (ts.take (j + 1) = ts.take j ++ [x]) := Lib.hid (by rw [List.take_add_one, hx]; rfl)
              have hjI : (j : Int) < dn := by omega
              clear hx hdx hvx hj hown hrows
              obtain ⟨⟨yn, yk, ya, yv⟩, yu⟩ := x
              simp only at e0 e1 e2 e3 ct hnode
              obtain ⟨K1, rfl⟩ := Int.eq_ofNat_of_zero_le hnode.1
              have hK : K1 < 8 := by omega
              have hKI2 : (K1 : Int) < 8 := by omega
              have HSN := Lib.hid (rowsF_snoc 8 (ts.take j) (x := ⟨⟨(K1 : Int), yk, ya, yv⟩, yu⟩) (k := K1) rfl)
              obtain ⟨v, hv⟩ := get_some (xs := us) (k := K1) (by rw [HRO.out.len, rowsF_len]; exact hK)
              have HV := Lib.hid hv
              have hrk := HRO.out.own K1 v _ _ hv (rowsF_get hK (ts.take j))
              have HNLE : Hid ((nodeF K1 (ts.take j)).length ≤ 200) := Lib.hid (by
                have h1 := nodeF_len K1 (ts.take j)
                have h2 : (ts.take j).length ≤ j := by rw [List.length_take]; omega
                omega)
              obtain ⟨va2, vc2, hv2⟩ := own_form hrk
              subst hv2
              have HRK := Lib.hid hrk
              have HNEK := Lib.hid (own_neO hrk)
              have m0 : (W4.later l d).cell? ⟨g, K1, none⟩ = some (.slice va2 (nodeF K1 (ts.take j)).length vc2) := by rw [HAO.out.cellAt K1 (by omega)]; exact hv
              have mf0 := HAO.out.frozenAt K1
              generalize hnl : nodeF K1 (ts.take j) = NL at *
              clear hnl hv hrk hnode
              go_upto_region 35 with (fail)
              -- M begin
              refine wp_region_held_drew (S := HeldO (W4.heap.size + l.size) K1 yk ya yv bt (offt + j) yu) (by kernel_rfl) ?_ (fun hHeld => ?_)
              · exact ⟨by go_simp, by go_simp, by go_simp, by go_simp, by go_simp⟩
              refine wpAnyH_take (i := 0) (v := ?v0t) rfl (by kernel_rfl) (by kernel_rfl) (by kernel_rfl) (fun _ _ _ h => h) (Or.inl ⟨by rfl, ?y0t⟩) (by assumption) ?r0t
              case y0t => intro w hw; obtain ⟨k0, k1, k2, k3, k4⟩ := hw; go_simp; with_reducible rfl
              try simp only [Act.put, List.getElem_toArray, List.getElem_cons_succ, List.getElem_cons_zero, List.setIfInBounds_toArray, List.set_cons_zero, List.set_cons_succ]
              refine wpAnyH_take (i := 1) (v := ?v1t) rfl (by kernel_rfl) (by kernel_rfl) (by kernel_rfl) (fun _ _ _ h => h) (Or.inl ⟨by rfl, ?y1t⟩) (by assumption) ?r1t
              case y1t => intro w hw; obtain ⟨k0, k1, k2, k3, k4⟩ := hw; go_simp; with_reducible rfl
              try simp only [Act.put, List.getElem_toArray, List.getElem_cons_succ, List.getElem_cons_zero, List.setIfInBounds_toArray, List.set_cons_zero, List.set_cons_succ]
              refine wpAnyH_take (i := 3) (v := ?v3t) rfl (by kernel_rfl) (by kernel_rfl) (by kernel_rfl) (fun _ _ _ h => h) (Or.inl ⟨by rfl, ?y3t⟩) (by assumption) ?r3t
              case y3t => intro w hw; obtain ⟨k0, k1, k2, k3, k4⟩ := hw; go_simp; with_reducible rfl
              try simp only [Act.put, List.getElem_toArray, List.getElem_cons_succ, List.getElem_cons_zero, List.setIfInBounds_toArray, List.set_cons_zero, List.set_cons_succ]
              refine wpAnyH_take (i := 4) (v := ?v4t) rfl (by kernel_rfl) (by kernel_rfl) (by kernel_rfl) (fun _ _ _ h => h) (Or.inl ⟨by rfl, ?y4t⟩) (by assumption) ?r4t
              case y4t => intro w hw; obtain ⟨k0, k1, k2, k3, k4⟩ := hw; go_simp; with_reducible rfl
              try simp only [Act.put, List.getElem_toArray, List.getElem_cons_succ, List.getElem_cons_zero, List.setIfInBounds_toArray, List.set_cons_zero, List.set_cons_succ]
              refine wpAnyH_take (i := 9) (v := ?v9t) rfl (by kernel_rfl) (by kernel_rfl) (by kernel_rfl) (fun _ _ _ h => h) (Or.inl ⟨by rfl, ?y9t⟩) (by assumption) ?r9t
              case y9t => intro w hw; obtain ⟨k0, k1, k2, k3, k4⟩ := hw; go_simp; with_reducible rfl
              try simp only [Act.put, List.getElem_toArray, List.getElem_cons_succ, List.getElem_cons_zero, List.setIfInBounds_toArray, List.set_cons_zero, List.set_cons_succ]
              refine wpAnyH_take (i := 10) (v := ?v10t) rfl (by kernel_rfl) (by kernel_rfl) (by kernel_rfl) (fun _ _ _ h => h) (Or.inl ⟨by rfl, ?y10t⟩) (by assumption) ?r10t
              case y10t => intro w hw; obtain ⟨k0, k1, k2, k3, k4⟩ := hw; go_simp; with_reducible rfl
              try simp only [Act.put, List.getElem_toArray, List.getElem_cons_succ, List.getElem_cons_zero, List.setIfInBounds_toArray, List.set_cons_zero, List.set_cons_succ]
              refine wpAnyH_take (i := 11) (v := ?v11t) rfl (by kernel_rfl) (by kernel_rfl) (by kernel_rfl) (fun _ _ _ h => h) (Or.inl ⟨by rfl, ?y11t⟩) (by assumption) ?r11t
              case y11t => intro w hw; obtain ⟨k0, k1, k2, k3, k4⟩ := hw; go_simp; with_reducible rfl
              try simp only [Act.put, List.getElem_toArray, List.getElem_cons_succ, List.getElem_cons_zero, List.setIfInBounds_toArray, List.set_cons_zero, List.set_cons_succ]
              refine wpAnyH_take (i := 2) (v := ?v2t) rfl (by kernel_rfl) (by kernel_rfl) (by kernel_rfl) (fun _ _ _ h => h) (Or.inl ⟨by rfl, ?y2t⟩) (by assumption) ?r2t
              case y2t => intro w hw; obtain ⟨k0, k1, k2, k3, k4⟩ := hw; go_simp; with_reducible rfl
              try simp only [Act.put, List.getElem_toArray, List.getElem_cons_succ, List.getElem_cons_zero, List.setIfInBounds_toArray, List.set_cons_zero, List.set_cons_succ]
              refine wpAnyH_take (i := 5) (v := ?v5t) rfl (by kernel_rfl) (by kernel_rfl) (by kernel_rfl) (fun _ _ _ h => h) (Or.inl ⟨by rfl, ?y5t⟩) (by assumption) ?r5t
              case y5t => intro w hw; obtain ⟨k0, k1, k2, k3, k4⟩ := hw; go_simp; with_reducible rfl
              try simp only [Act.put, List.getElem_toArray, List.getElem_cons_succ, List.getElem_cons_zero, List.setIfInBounds_toArray, List.set_cons_zero, List.set_cons_succ]
              refine wpAnyH_take (i := 6) (v := ?v6t) rfl (by kernel_rfl) (by kernel_rfl) (by kernel_rfl) (fun _ _ _ h => h) (Or.inl ⟨by rfl, ?y6t⟩) (by assumption) ?r6t
              case y6t => intro w hw; obtain ⟨k0, k1, k2, k3, k4⟩ := hw; go_simp; with_reducible rfl
              try simp only [Act.put, List.getElem_toArray, List.getElem_cons_succ, List.getElem_cons_zero, List.setIfInBounds_toArray, List.set_cons_zero, List.set_cons_succ]
              refine wpAnyH_take (i := 8) (v := ?v8t) rfl (by kernel_rfl) (by kernel_rfl) (by kernel_rfl) (fun _ _ _ h => h) (Or.inl ⟨by rfl, ?y8t⟩) (by assumption) ?r8t
              case y8t => intro w hw; obtain ⟨k0, k1, k2, k3, k4⟩ := hw; go_simp; with_reducible rfl
              try simp only [Act.put, List.getElem_toArray, List.getElem_cons_succ, List.getElem_cons_zero, List.setIfInBounds_toArray, List.set_cons_zero, List.set_cons_succ]
              refine wpAnyH_take (i := 12) (v := ?v12t) rfl (by kernel_rfl) (by kernel_rfl) (by kernel_rfl) (fun _ _ _ h => h) (Or.inl ⟨by rfl, ?y12t⟩) (by assumption) ?r12t
              case y12t => intro w hw; obtain ⟨k0, k1, k2, k3, k4⟩ := hw; go_simp; with_reducible rfl
              try simp only [Act.put, List.getElem_toArray, List.getElem_cons_succ, List.getElem_cons_zero, List.setIfInBounds_toArray, List.set_cons_zero, List.set_cons_succ]
              refine wpAnyH_take (i := 13) (v := ?v13t) rfl (by kernel_rfl) (by kernel_rfl) (by kernel_rfl) (fun _ _ _ h => h) (Or.inl ⟨by rfl, ?y13t⟩) (by assumption) ?r13t
              case y13t => intro w hw; obtain ⟨k0, k1, k2, k3, k4⟩ := hw; go_simp; with_reducible rfl
              try simp only [Act.put, List.getElem_toArray, List.getElem_cons_succ, List.getElem_cons_zero, List.setIfInBounds_toArray, List.set_cons_zero, List.set_cons_succ]
              refine wpAnyH_ready (rs := [7, 14]) (by kernel_rfl) (by simp) ?_
              refine AllReadyH.cons rfl (fun K hK => ?_) (AllReadyH.cons rfl (fun K hK => ?_) AllReadyH.nil)
              · go_simp
                refine hK.out _ _ (hHeld) (fun hHeld => ?_)
                clear hK K
                try simp only [Act.put, List.getElem_toArray, List.getElem_cons_succ, List.getElem_cons_zero, List.setIfInBounds_toArray, List.set_cons_zero, List.set_cons_succ]
                refine wpAnyH_ready (rs := [14]) (by kernel_rfl) (by simp) ?_
                refine AllReadyH.cons rfl (fun K hK => ?_) AllReadyH.nil
                go_simp
                refine hK.out _ _ (hHeld.alloc _) (fun hHeld => ?_)
                clear hK K
                try simp only [Act.put, List.getElem_toArray, List.getElem_cons_succ, List.getElem_cons_zero, List.setIfInBounds_toArray, List.set_cons_zero, List.set_cons_succ]
                refine wpAnyH_ready (rs := [15]) (by kernel_rfl) (by simp) ?_
                refine AllReadyH.cons rfl (fun K hK => ?_) AllReadyH.nil
                refine step_append_lies _ rfl _ _ 34 rfl (g + 1) 39 i4 _ 5 40 Try.underlying34 ji jz0 jz1 jz2 rfl (by decide) _ _ _ rfl (own_drewO ((HRK.out.alloc _).alloc _)) ⟨_, 0, none⟩ 1 1 [.int .i64 (K1 : Int), .int .i64 yk, .int .i64 ya, .int .u64 yv, .int .u64 yu] rfl rfl ?q1ta ?q2ta (by decide) ?q3ta ?q4ta ?q5ta _ rfl ?_
                case q1ta => exact fun j u h => five_newO (by simp) j u h
                case q2ta => intro u hu; simp at hu; rcases hu with rfl | rfl | rfl | rfl | rfl <;> rfl
                case q3ta => have := HNLE.out; unfold maxLen; omega
                case q4ta => have := HNLE.out; omega
                case q5ta => have h := (HAO.out.lt g rfl).2; simp at h; simp; omega
                intro b5 c5 w1 hown5 hgrow hat hlt5
                have hb5 := below_grown (W0 := W4) (by repeat (first | exact Below.refl _ _ | apply bs_later | apply bs_alloc | apply bs_drew | apply bs_drewN)) hgrow (fun g' hg' => by have h := (HRK.out.lt g' hg').1; have := HGG.out; omega)
                have hown6 := (own_drewO ((HAO.out.alloc _).alloc _)).kept hgrow (.inr (fun h => HNEK.out h.symm))
                have hrows6 := (rows_drewO ((HRO.out.alloc _).alloc _)).put2 HV.out hgrow hown5 hat
                have hHeld5 := hHeld.grown hgrow (fun e => by have h := (HRK.out.lt _ e.symm).2; rw [size_later] at h; omega) (fun e => by have h := (HRK.out.lt _ e.symm).1; have := HGG.out; unfold inB at hint; omega)
                obtain ⟨l5, d5, rfl⟩ := later_of hb5
                have m5 : (W4.later l5 d5).cell? ⟨g, K1, none⟩ = some (.slice va2 NL.length vc2) := (by rw [hown6.cellAt K1 (by omega)]; exact HV.out)
                have mf5 := hown6.frozenAt K1
                have mgf5 : farB W4 l5 g := (by have h := (hown6.lt g rfl).2; simpa [farB] using h)
                obtain ⟨l6, d6, e6, -, h6⟩ := own_storeO hown6 (Nat.le_refl _) HGG.out K1 (.slice (some ⟨b5, 0, none⟩) (NL.length + 1) c5)
                have hst6 := (hown6.stored K1 (.slice (some ⟨b5, 0, none⟩) (NL.length + 1) c5)).2
                have hr6 := hrows6.kept hst6
                have hHeld6 := hHeld5.grown hst6 (fun e => by injection e with e; have h := (HAO.out.lt g rfl).2; rw [size_later] at h; omega) (fun e => by injection e with e; have := HGG.out; unfold inB at hint; omega)
                rw [e6] at hr6 hHeld6
                have HA6 := Lib.hid h6
                have HR6 := Lib.hid hr6
                clear hown5 hgrow hat hlt5 hb5 hown6 hrows6 h6 hr6 hst6
                refine hK.out _ _ (hHeld5) (fun hHeld => ?_)
                clear hK K
                try simp only [Act.put, List.getElem_toArray, List.getElem_cons_succ, List.getElem_cons_zero, List.setIfInBounds_toArray, List.set_cons_zero, List.set_cons_succ]
                refine wpAnyH_ready (rs := [16]) (by kernel_rfl) (by simp) ?_
                refine AllReadyH.cons rfl (fun K hK => ?_) AllReadyH.nil
                go_simp
                refine hK.out _ _ (hHeld5) (fun hHeld => ?_)
                clear hK K
                try simp only [Act.put, List.getElem_toArray, List.getElem_cons_succ, List.getElem_cons_zero, List.setIfInBounds_toArray, List.set_cons_zero, List.set_cons_succ]
                refine wpAnyH_ready (rs := [17]) (by kernel_rfl) (by simp) ?_
                refine AllReadyH.cons rfl (fun K hK => ?_) AllReadyH.nil
                go_simp
                refine hK.out _ _ (hHeld6) (fun hHeld => ?_)
                clear hK K
                try simp only [Act.put, List.getElem_toArray, List.getElem_cons_succ, List.getElem_cons_zero, List.setIfInBounds_toArray, List.set_cons_zero, List.set_cons_succ]
                refine wpAnyH_done (by kernel_rfl) ?_ _
                go_wp2
                exact ⟨⟨j + 1, _, _, _, HJ.out, by go_num, rfl, HA6.out, by rw [HTK.out, HSN.out]; exact HR6.out⟩, by simp [intOf]; omega⟩
              · go_simp
                refine hK.out _ _ (hHeld.alloc _) (fun hHeld => ?_)
                clear hK K
                try simp only [Act.put, List.getElem_toArray, List.getElem_cons_succ, List.getElem_cons_zero, List.setIfInBounds_toArray, List.set_cons_zero, List.set_cons_succ]
                refine wpAnyH_ready (rs := [7]) (by kernel_rfl) (by simp) ?_
                refine AllReadyH.cons rfl (fun K hK => ?_) AllReadyH.nil
                go_simp
                refine hK.out _ _ (hHeld) (fun hHeld => ?_)
                clear hK K
                try simp only [Act.put, List.getElem_toArray, List.getElem_cons_succ, List.getElem_cons_zero, List.setIfInBounds_toArray, List.set_cons_zero, List.set_cons_succ]
                refine wpAnyH_ready (rs := [15]) (by kernel_rfl) (by simp) ?_
                refine AllReadyH.cons rfl (fun K hK => ?_) AllReadyH.nil
                refine step_append_lies _ rfl _ _ 34 rfl (g + 1) 39 i4 _ 5 40 Try.underlying34 ji jz0 jz1 jz2 rfl (by decide) _ _ _ rfl (own_drewO ((HRK.out.alloc _).alloc _)) ⟨_, 0, none⟩ 1 1 [.int .i64 (K1 : Int), .int .i64 yk, .int .i64 ya, .int .u64 yv, .int .u64 yu] rfl rfl ?q1tb ?q2tb (by decide) ?q3tb ?q4tb ?q5tb _ rfl ?_
                case q1tb => exact fun j u h => five_newO (by simp) j u h
                case q2tb => intro u hu; simp at hu; rcases hu with rfl | rfl | rfl | rfl | rfl <;> rfl
                case q3tb => have := HNLE.out; unfold maxLen; omega
                case q4tb => have := HNLE.out; omega
                case q5tb => have h := (HAO.out.lt g rfl).2; simp at h; simp; omega
                intro b5 c5 w1 hown5 hgrow hat hlt5
                have hb5 := below_grown (W0 := W4) (by repeat (first | exact Below.refl _ _ | apply bs_later | apply bs_alloc | apply bs_drew | apply bs_drewN)) hgrow (fun g' hg' => by have h := (HRK.out.lt g' hg').1; have := HGG.out; omega)
                have hown6 := (own_drewO ((HAO.out.alloc _).alloc _)).kept hgrow (.inr (fun h => HNEK.out h.symm))
                have hrows6 := (rows_drewO ((HRO.out.alloc _).alloc _)).put2 HV.out hgrow hown5 hat
                have hHeld5 := hHeld.grown hgrow (fun e => by have h := (HRK.out.lt _ e.symm).2; rw [size_later] at h; omega) (fun e => by have h := (HRK.out.lt _ e.symm).1; have := HGG.out; unfold inB at hint; omega)
                obtain ⟨l5, d5, rfl⟩ := later_of hb5
                have m5 : (W4.later l5 d5).cell? ⟨g, K1, none⟩ = some (.slice va2 NL.length vc2) := (by rw [hown6.cellAt K1 (by omega)]; exact HV.out)
                have mf5 := hown6.frozenAt K1
                have mgf5 : farB W4 l5 g := (by have h := (hown6.lt g rfl).2; simpa [farB] using h)
                obtain ⟨l6, d6, e6, -, h6⟩ := own_storeO hown6 (Nat.le_refl _) HGG.out K1 (.slice (some ⟨b5, 0, none⟩) (NL.length + 1) c5)
                have hst6 := (hown6.stored K1 (.slice (some ⟨b5, 0, none⟩) (NL.length + 1) c5)).2
                have hr6 := hrows6.kept hst6
                have hHeld6 := hHeld5.grown hst6 (fun e => by injection e with e; have h := (HAO.out.lt g rfl).2; rw [size_later] at h; omega) (fun e => by injection e with e; have := HGG.out; unfold inB at hint; omega)
                rw [e6] at hr6 hHeld6
                have HA6 := Lib.hid h6
                have HR6 := Lib.hid hr6
                clear hown5 hgrow hat hlt5 hb5 hown6 hrows6 h6 hr6 hst6
                refine hK.out _ _ (hHeld5) (fun hHeld => ?_)
                clear hK K
                try simp only [Act.put, List.getElem_toArray, List.getElem_cons_succ, List.getElem_cons_zero, List.setIfInBounds_toArray, List.set_cons_zero, List.set_cons_succ]
                refine wpAnyH_ready (rs := [16]) (by kernel_rfl) (by simp) ?_
                refine AllReadyH.cons rfl (fun K hK => ?_) AllReadyH.nil
                go_simp
                refine hK.out _ _ (hHeld5) (fun hHeld => ?_)
                clear hK K
                try simp only [Act.put, List.getElem_toArray, List.getElem_cons_succ, List.getElem_cons_zero, List.setIfInBounds_toArray, List.set_cons_zero, List.set_cons_succ]
                refine wpAnyH_ready (rs := [17]) (by kernel_rfl) (by simp) ?_
                refine AllReadyH.cons rfl (fun K hK => ?_) AllReadyH.nil
                go_simp
                refine hK.out _ _ (hHeld6) (fun hHeld => ?_)
                clear hK K
                try simp only [Act.put, List.getElem_toArray, List.getElem_cons_succ, List.getElem_cons_zero, List.setIfInBounds_toArray, List.set_cons_zero, List.set_cons_succ]
                refine wpAnyH_done (by kernel_rfl) ?_ _
                go_wp2
                exact ⟨⟨j + 1, _, _, _, HJ.out, by go_num, rfl, HA6.out, by rw [HTK.out, HSN.out]; exact HR6.out⟩, by simp [intOf]; omega⟩
              -- M end
              -- L end
            · obtain rfl : j = dn := by have := HTS.out.1; omega
              have htk : ts.take j = ts := List.take_of_length_le (by rw [HTS.out.1]; exact Nat.le_refl _)
              rw [htk] at hrows
              have hll := rows_mine hown hrows
              obtain ⟨he, hs⟩ := mine_explained (m := m) (ts := ts) (by rw [HTS.out.1]; exact h12N) HTS.out.2.1 HTS.out.2.2.1
              obtain ⟨qs, hqs⟩ := Option.isSome_iff_exists.1 hs
              have PX := fun w h => explain_any m HM.out HWM.out (mineL 8 ts) (mine_ok HTS.out.2.2.2) (some ⟨g, 0, none⟩) 8 8 w (mineL_len 8 ts) (by decide) h
              rw [he, hqs] at PX
              have HPX := Lib.hid PX
              have HLI := Lib.hid hll
              clear htk hrows hown hll he hs hqs PX hlt hj
              -- T begin
              go_wp2_with (first
                | ((with_reducible refine at_wp ?_); refine wpList_load_r rfl 26 _ rfl _ rfl 64 _ Try.underlying26 rfl (by kernel_rfl) (by (simp [go_sem, rM4, hinM4]; done)) ?_; intro C hC; simp [go_sem, hinM4, HQM4.out] at hC; subst hC)
                | (go_at_call 9; refine (HPX.out _ HLI.out).mono ?_; rintro e w1 ⟨v, rfl, hown, hb1⟩; obtain ⟨l7, d7, rfl⟩ := later_of hb1; clear hb1 hown))
              go_ret
              exact ⟨rfl, range.below_trans HB4.out (by repeat (first | exact Below.refl _ _ | apply bs_later | apply bs_alloc | apply bs_drew | apply bs_drewN))⟩
              -- T end

theorem walk {H : Type} {enc : TypeId × Value → H} {dd1 dd2 : DataW H} {pp1 pp2 : List MemPlace} (xs : List Int) (da : Option Addr) (dn dc : Nat) (a : Option Addr) (n c : Nat) (w : World) (hl : xs.length = 64) (wx : ∀ x ∈ xs, (Lit.int .u64 x).wf = true)
    (k1 : DataW.Trod enc Try.prog w 0 (fun _ => true) true 27 (.slice da dn dc) dd1 pp1)
    (k2 : DataW.Trod enc Try.prog w 0 (fun _ => true) true 28 (.slice a n c) dd2 pp2) :
    Calls Try.prog 3 #[.agg (xs.map (Value.int .u64)).toArray, .slice da dn dc, .slice a n c] w (Ret (.bool true) w) := by
  obtain ⟨q1, q2, _, ds, hdn, hds, hD⟩ := open_deeds (m := 4) Try.underlying27 (by kernel_rfl) (by kernel_rfl) k1
  obtain ⟨p1, p2, _, ls, hn, hP, hls⟩ := open_lists (Q := ToldsAt) (good := T5.Ok) Try.underlying28 Try.underlying34 (by kernel_rfl) (fun a len cap d ps h => open_tolds (m := 6) Try.underlying34 (by kernel_rfl) (by kernel_rfl) h) k2
  exact walk_any xs hl wx ds hD da dn dc ls hls a n c w hdn (Nat.le_trans q1 q2) hds hn (Nat.le_trans p1 p2) hP

-- the frame, by program
set_option maxRecDepth 100000 in
theorem lifted (os : Os) (started : os.Started) (H : Type) (enc : TypeId × Value → H) :
    ReturnsInHanded {} Try.checked os 3 .any (Rows.orderFindsSpec.pre6 enc Try.prog Try.f3 Rows.orderFindsRow.domain false) (Rows.orderFindsSpec.post enc Try.prog Try.f3 false true false false) := by
  refine returnsInHanded_of_change (C := Try.checked) own started (by kernel_rfl) Try.func3
    (ChangeSpec.witness6 (enc := enc) (C := Try.checked) false ⟨#[], #[.agg (Array.replicate 64 (.int .u64 0)), .slice none 0 0, .slice none 0 0], []⟩ 8 (by kernel_rfl) (by kernel_rfl) (by kernel_rfl) (by kernel_rfl)) ?_
  intro W base args ds gs before hval0 hW hcnd _
  have hval : ∀ (j : Nat) t v, Try.f3.params[j]? = some t → args[j]? = some v → Value.okWide Try.prog W .any base t v := hval0
  have hW' := hW
  obtain ⟨p, q, hA0, hV, rfl, hfz, hnd⟩ := hW
  have hA : DataW.TrodAll enc Try.prog W 0 (fun _ => true) true Try.f3.params.toList args.toList ds p := hA0
  rw [Try.params3] at hA hval
  obtain ⟨v0, vs0, d0, ds0, p0, q0, hargs, rfl, rfl, h0, r0⟩ := trodAll_cons hA
  obtain ⟨v1, vs1, d1, ds1, p1, q1, rfl, rfl, rfl, h1, r1⟩ := trodAll_cons r0
  obtain ⟨v2, vs2, d2, ds2, p2, q2, rfl, rfl, rfl, h2, r2⟩ := trodAll_cons r1
  obtain ⟨rfl, rfl, rfl⟩ := trodAll_nil r2
  obtain rfl : args = #[v0, v1, v2] := by cases args; simp_all
  obtain ⟨rfl, rfl⟩ := trodVars_none hV
  have k0 := h0
  have lt0 : ∀ x ∈ p0, x.block < W.heap.size := by obtain ⟨m, hm⟩ := k0; exact DataW.trod_lt m _ _ _ hm
  have k1 := h1
  have lt1 : ∀ x ∈ p1, x.block < W.heap.size := by obtain ⟨m, hm⟩ := k1; exact DataW.trod_lt m _ _ _ hm
  have k2 := h2
  have lt2 : ∀ x ∈ p2, x.block < W.heap.size := by obtain ⟨m, hm⟩ := k2; exact DataW.trod_lt m _ _ _ hm
  obtain ⟨cs0, rfl, al0⟩ := open_flat (n := 4) (List.replicate 64 (.int .u64)) (by kernel_rfl) (by kernel_rfl) (.inr ⟨_, _, Try.underlying26⟩) (hval 0 26 v0 rfl rfl) h0
  obtain ⟨a0, l0, rfl, w0⟩ := all2_ints al0
  obtain ⟨a1, len1, cap1, rfl⟩ := okWide_slice Try.underlying27 (hval 1 27 v1 rfl rfl)
  obtain ⟨a2, len2, cap2, rfl⟩ := okWide_slice Try.underlying28 (hval 2 28 v2 rfl rfl)
  clear hA0 hval0
  refine (walk a0 a1 len1 cap1 a2 len2 cap2 W l0 w0 k1 k2).mono fun e W' ⟨he, bel⟩ => ?_
  subst he
  exact ⟨_, rfl, _, _, _, [], _, [], hW', trodAll_mk1 (shut_bool Try.underlying4 _), (trodAll_cons_mk (Below.trod knob.laidOut (by kernel_rfl) (of_decide_eq_true (by kernel_rfl)) k0 bel lt0) (trodAll_cons_mk (Below.trod knob.laidOut (by kernel_rfl) (of_decide_eq_true (by kernel_rfl)) k1 bel lt1) (trodAll_cons_mk (Below.trod knob.laidOut (by kernel_rfl) (of_decide_eq_true (by kernel_rfl)) k2 bel lt2) trodAll_mk0))), rfl, bel.frame _, fun h => by cases h⟩

theorem over : Rows.orderFindsRow.holds Try.pinned (OpenSpec.ofChange Rows.orderFindsSpec) :=
  OpenClaim.holds_of_wide 3 Try.f3 rfl rfl rfl rfl rfl rfl rfl ⟨rfl, rfl, rfl, rfl, rfl⟩ rfl rfl rfl rfl rfl (by kernel_rfl) Try.func3 (by kernel_rfl)
    (of_decide_eq_true (by kernel_rfl)) (by unfold Func.isWrapper; first | (rw [if_pos (by decide +kernel)]; kernel_rfl) | (rw [if_neg (by decide +kernel)]; exact ⟨rfl, rfl⟩))
    (fun os started H enc _ => lifted os started H enc)

theorem proved : Rows.OrderFindsSaid := over

end Go.Proofs.Ytffhfpdmfegcpac.orderFinds
