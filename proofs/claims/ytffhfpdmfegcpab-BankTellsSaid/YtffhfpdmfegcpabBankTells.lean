/- ringdovelaw.BankTells: for every two memories, a line's number, an address, a line and a word, the call returns true. -/
import Derived.Test.YtffhfpdmfegcpabBankMore
import Derived.Test.YtffhfpdmfegcpabEqInt
import Derived.Test.YtffhfpdmfegcpabGoodBad
import Derived.Test.YtffhfpdmfegcpabTable2
import Derived.Deep.DeepCutAuto
import Derived.Deep.RegionHeld3
import Derived.Deep.MidRow
namespace Go.Proofs.Ytffhfpdmfegcpab.bankTells
open Go.ChangeShapes Go.WideShapes Go.ChangeAt Go.RowKit
open Go.ChangeMaps (open_string shut_string)
open Go.Joins (ownsRow_le)
open Go.Proofs.Ytffhfpdmfegcpab.base Go.Proofs.Ytffhfpdmfegcpab.knob Go.Proofs.Ytffhfpdmfegcpab.flat Go.Proofs.Ytffhfpdmfegcpab.same Go.Proofs.Ytffhfpdmfegcpab.words Go.Proofs.Ytffhfpdmfegcpab.addr Go.Proofs.Ytffhfpdmfegcpab.bank Go.Proofs.Ytffhfpdmfegcpab.bankSame Go.Proofs.Ytffhfpdmfegcpab.atomic Go.Proofs.Ytffhfpdmfegcpab.memEq Go.Proofs.Ytffhfpdmfegcpab.bankMore Go.Proofs.Ytffhfpdmfegcpab.refAddr
set_option linter.unusedVariables false
set_option linter.unusedSimpArgs false

theorem zeroXs_sz : (memA zeroXs).size = 64 := by rw [size_memA, zeroXs_len]
theorem cell_rowOf {w : World} {n k : Nat} (h : okRow w n k) (i : Nat) : w.cell? ⟨n, i, none⟩ = (rowOf w n)[i]? := by
  obtain ⟨c, t, h1, _⟩ := h
  unfold rowOf
  simp [World.cell?, h1]
/-- a line lies in block b -/
def LineAt (w : World) (b : Nat) (x0 x1 x2 x3 : Int) : Prop := w.cell? ⟨b, 0, none⟩ = some (.int .u64 x0) ∧ w.cell? ⟨b, 1, none⟩ = some (.int .u64 x1) ∧ w.cell? ⟨b, 2, none⟩ = some (.int .u64 x2) ∧ w.cell? ⟨b, 3, none⟩ = some (.int .u64 x3)
def MemAt (w : World) (b : Nat) (xs : List Int) : Prop := okRow w b 64 ∧ rowOf w b = memA xs
def Mid (xs ys zs ps : List Int) (p q r s x0 x1 x2 x3 : Int) (w : World) (s6 s7 s10 s13 s15 s19 s52 : Value) (wx : World) : Prop :=
  ∃ (b6 b7 b10 b13 b15 b19 : Nat), s52 = .int .i64 ((0 : Nat) : Int) ∧ s6 = .pointer (some ⟨b6, 0, none⟩) ∧ s7 = .pointer (some ⟨b7, 0, none⟩) ∧ s10 = .pointer (some ⟨b10, 0, none⟩) ∧ s13 = .pointer (some ⟨b13, 0, none⟩) ∧ s15 = .pointer (some ⟨b15, 0, none⟩) ∧ s19 = .pointer (some ⟨b19, 0, none⟩) ∧
    Below w.heap.size w wx ∧ MemAt wx b6 xs ∧ MemAt wx b7 ys ∧ MemAt wx b15 zs ∧ MemAt wx b19 ps ∧ LineAt wx b10 p q r s ∧ LineAt wx b13 x0 x1 x2 x3
theorem set_wf {xs : List Int} (h : AllU xs) (i : Nat) {v : Int} (hv : (Lit.int .u64 v).wf = true) : AllU (xs.set i v) := by
  intro x hx
  rcases List.mem_or_eq_of_mem_set hx with h1 | h1
  · exact h x h1
  · subst h1; exact hv
theorem range_below {w w' : World} {b o : Nat} {cs : List Value} (h : w.rangeAt b o cs) (hb : Below w.heap.size w w') : w'.rangeAt b o cs := fun j v hv => by
  have h3 := h j v hv
  rw [hb.cell (p := ⟨b, _, none⟩) (table.lt_of_cell h3)]
  exact h3
theorem below_trans {W0 w w' : World} (h : Below W0.heap.size W0 w) (hb : Below w.heap.size w w') : Below W0.heap.size W0 w' := by
  obtain ⟨l, d, rfl⟩ := later_of hb
  exact bs_later h l d
theorem keep_S {b23 b6 b7 : Nat} {Z X Y : List Value} {W0 w w' : World} (h : w.rangeAt b23 0 Z ∧ w.rangeAt b6 0 X ∧ w.rangeAt b7 0 Y ∧ Below W0.heap.size W0 w) (hb : Below w.heap.size w w') : w'.rangeAt b23 0 Z ∧ w'.rangeAt b6 0 X ∧ w'.rangeAt b7 0 Y ∧ Below W0.heap.size W0 w' :=
  ⟨range_below h.1 hb, range_below h.2.1 hb, range_below h.2.2.1 hb, below_trans h.2.2.2 hb⟩
theorem range_mem {w : World} {b : Nat} {xs : List Int} (h : MemAt w b xs) : w.rangeAt b 0 (xs.map (Value.int .u64)) := fun j v hv => by
  rw [cell_rowOf h.1, h.2, Nat.zero_add]
  simpa [memA] using hv
theorem wpList_load_w {P : Program} {ops : Array Oper} {rest : List Oper} {o : Oper} {a : Act} {w : World} {Q : Exit → Act → World → Prop} (hw : Region.wanted o (yielded ops a.tmps) = true) (ty : TypeId) (x : Operand) (ho : o.op = .load ty x)
    (n : Nat) (hx : a.eval x = .pointer (some ⟨n, 0, none⟩)) (k : Nat) (d : TypeDesc) (hu : P.underlying ty = some d) (hd : (match d with | .struct _ | .array _ _ => true | _ => false) = true) (hi : (P.info? ty).map (·.size) = some k)
    (h : okRow w n k) (hK : ∀ C, rowOf w n = C → wpList P ops Q rest (a.put o.dst (.agg C)) w) : wpList P ops Q (o :: rest) a w :=
  wpList_step fun K hK' => by
    rw [if_pos hw]
    exact wp_load_r ty x ho n hx k d hu hd hi h fun C hC => hK' _ _ (hK C hC)
theorem range_later {w : World} {b o : Nat} {cs : List Value} (h : w.rangeAt b o cs) (l : Array Obj) (d : Nat) : (w.later l d).rangeAt b o cs :=
  range_below h (bs_later (Below.refl _ _) l d)
theorem range_new {W : World} {t : TypeId} {zs : List Int} {b : Nat} (hb : b = W.heap.size) : (W.alloc (.cells (memA zs) t)).rangeAt b 0 (zs.map (Value.int .u64)) := fun j v hv => by
  rw [World.cell?_alloc_at _ _ _ _ hb, Nat.zero_add]; simpa [memA] using hv
theorem start_S {W : World} {t : TypeId} (zs : List Int) {xs ys : List Int} {b6 b7 b23 : Nat} (hb : b23 = W.heap.size) (h6 : MemAt W b6 xs) (h7 : MemAt W b7 ys) :
    (W.alloc (.cells (memA zs) t)).drew.rangeAt b23 0 (zs.map (Value.int .u64)) ∧ (W.alloc (.cells (memA zs) t)).drew.rangeAt b6 0 (xs.map (Value.int .u64)) ∧ (W.alloc (.cells (memA zs) t)).drew.rangeAt b7 0 (ys.map (Value.int .u64)) ∧ Below (W.alloc (.cells (memA zs) t)).heap.size (W.alloc (.cells (memA zs) t)) (W.alloc (.cells (memA zs) t)).drew :=
  ⟨(World.rangeAt_drew _ _ _ _).2 fun j v hv => by rw [World.cell?_alloc_at _ _ _ _ hb, Nat.zero_add]; simpa [memA] using hv,
    (World.rangeAt_drew _ _ _ _).2 (World.rangeAt_alloc (range_mem h6) _), (World.rangeAt_drew _ _ _ _).2 (World.rangeAt_alloc (range_mem h7) _), (Below.refl _ _).drew⟩
def Rel (xs ys : List Int) (W0 : World) (v i : Value) (wr : World) : Prop :=
  ∃ (k : Nat) (l : Array Obj) (d n : Nat), k ≤ 64 ∧ i = .int .i64 k ∧ wr = W0.later l d ∧ n = (diffs xs ys k).length ∧ wr.ownsRow W0.heap.size 3 1 v n ((diffs xs ys k).map (Value.int .i64))

set_option maxHeartbeats 4000000 in
set_option maxRecDepth 100000 in
theorem walk_any (xs ys : List Int) (hx : xs.length = 64) (hy : ys.length = 64) (wx : AllU xs) (line a p q r s v : Int) (w : World) (wp : (Lit.int .u64 p).wf = true) (wq : (Lit.int .u64 q).wf = true) (wr : (Lit.int .u64 r).wf = true) (ws : (Lit.int .u64 s).wf = true) (wv : (Lit.int .u64 v).wf = true) :
    Calls Try.prog 3 #[.agg (memA xs), .agg (memA ys), .int .i64 line, .int .i64 a, .agg #[.int .u64 p, .int .u64 q, .int .u64 r, .int .u64 s], .int .u64 v] w (Ret (.bool true) w) := by
  have sx : (memA xs).size = 64 := by rw [size_memA, hx]
  have sy : (memA ys).size = 64 := by rw [size_memA, hy]
  have HR : Hid (∃ x0 x1 x2 x3 e : Int, ∃ zs : List Int, zs.length = 64 ∧ (∀ w, Calls Try.prog 14 #[.agg (memA xs), .int .i64 line] w (Ret (.tuple #[.agg #[.int .u64 x0, .int .u64 x1, .int .u64 x2, .int .u64 x3], .int .i64 e]) w)) ∧
      (∀ w, Calls Try.prog 15 #[.agg (memA xs), .int .i64 line, .agg #[.int .u64 p, .int .u64 q, .int .u64 r, .int .u64 s]] w (Ret (.tuple #[.agg (memA zs), .int .i64 e]) w)) ∧
      ((∃ k : Nat, line = k ∧ k < 16 ∧ e = 0 ∧ zs = lineM xs k p q r s ∧ x0 = wordAt xs (k * 4) ∧ x1 = wordAt xs (k * 4 + 1) ∧ x2 = wordAt xs (k * 4 + 2) ∧ x3 = wordAt xs (k * 4 + 3)) ∨ (¬ (0 ≤ line ∧ line ≤ 15) ∧ e = 4 ∧ zs = zeroXs ∧ x0 = 0 ∧ x1 = 0 ∧ x2 = 0 ∧ x3 = 0))) := Lib.hid (by
    by_cases h : 0 ≤ line ∧ line ≤ 15
    · obtain ⟨k, rfl⟩ := Int.eq_ofNat_of_zero_le h.1
      exact ⟨_, _, _, _, _, _, by rw [lineM_len, hx], fun w => read_ok xs hx k (by omega) w, fun w => write_ok xs hx k (by omega) p q r s w, .inl ⟨k, rfl, by omega, rfl, rfl, rfl, rfl, rfl, rfl⟩⟩
    · exact ⟨_, _, _, _, _, _, zeroXs_len, fun w => read_bad xs hx line h w, fun w => write_bad xs hx line h p q r s w, .inr ⟨h, rfl, rfl, rfl, rfl, rfl, rfl⟩⟩)
  obtain ⟨x0, x1, x2, x3, e, zs, hzl, hr, hw, hc⟩ := HR.out
  have HRD := Lib.hid hr
  have HWR := Lib.hid hw
  have HC := Lib.hid hc
  have HP : Hid (∃ ps : List Int, ps.length = 64 ∧ (∀ w, Calls Try.prog 17 #[.agg (memA xs), .int .i64 a, .int .u64 v] w (Ret (.tuple #[.agg (memA ps), .int .i64 (lineE a)]) w)) ∧ ((0 ≤ a ∧ a ≤ 63 ∧ ps = xs.set a.toNat v) ∨ (¬ (0 ≤ a ∧ a ≤ 63) ∧ ps = zeroXs))) := Lib.hid (by
    by_cases h : 0 ≤ a ∧ a ≤ 63
    · refine ⟨_, by rw [List.length_set, hx], fun w => ?_, .inl ⟨h.1, h.2, rfl⟩⟩
      rw [show lineE a = 0 from if_pos h]
      exact poke_ok xs hx a v w h.1 h.2
    · refine ⟨_, zeroXs_len, fun w => ?_, .inr ⟨h, rfl⟩⟩
      rw [show lineE a = 4 from if_neg h]
      exact poke_bad xs hx a v w h)
  obtain ⟨ps, hpl, hpk, hpc⟩ := HP.out
  have HPK := Lib.hid hpk
  have HPC := Lib.hid hpc
  have s2 : (memA zs).size = 64 := by rw [size_memA, hzl]
  have s3 : (memA ps).size = 64 := by rw [size_memA, hpl]
  have HX := Lib.hid hx
  have HY := Lib.hid hy
  clear HR HP hr hw hc hpk hpc hx hy hzl hpl
  go_enter Try.func3, Try.ntmps3
  go_upto_region 6 with (first
    | (refine wpList_load_r rfl 26 _ rfl _ rfl 64 _ Try.underlying26 rfl (by kernel_rfl) (by (simp [go_sem, sx, sy, s2, s3]; done)) ?_; intro C hC; simp [go_sem] at hC; subst hC)
    | (refine wpList_store_r rfl 26 _ _ rfl _ rfl _ rfl 64 (by kernel_rfl) (by (simp [go_sem, sx, sy, s2, s3]; done)) (by (simp [sx, sy, s2, s3]; done)) (memA_one _) ?_; intro W hW; simp [go_sem] at hW; subst hW)
    | (go_at_call 14; refine (HRD.out _).mono ?_; rintro e w1 ⟨rfl, hb1⟩; obtain ⟨l1, d1, rfl⟩ := later_of hb1; clear hb1)
    | (go_at_call 15; refine (HWR.out _).mono ?_; rintro e w1 ⟨rfl, hb1⟩; obtain ⟨l1, d1, rfl⟩ := later_of hb1; clear hb1)
    | (go_at_call 16; refine (word_any xs HX.out _ _).mono ?_; rintro e w1 ⟨rfl, hb1⟩; obtain ⟨l1, d1, rfl⟩ := later_of hb1; clear hb1)
    | (go_at_call 17; refine (HPK.out _).mono ?_; rintro e w1 ⟨rfl, hb1⟩; obtain ⟨l1, d1, rfl⟩ := later_of hb1; clear hb1))
  go_cut [6, 7, 10, 13, 15, 19, 52] (fun c6 c7 c10 c13 c15 c19 c52 wx => Mid xs ys zs ps p q r s x0 x1 x2 x3 w c6 c7 c10 c13 c15 c19 c52 wx)
  case first =>
    go_wp2_with (fail)
    go_meet
    case rel =>
      exact ⟨_, _, _, _, _, _, rfl, rfl, rfl, rfl, rfl, rfl, rfl, (by repeat (first | exact Below.refl _ _ | apply bs_later | apply bs_alloc | apply bs_drew | apply bs_drewN)),
        ⟨by simp [go_sem, sx], by simp [go_sem]⟩, ⟨by simp [go_sem, sy], by simp [go_sem]⟩, ⟨by simp [go_sem, s2], by simp [go_sem]⟩, ⟨by simp [go_sem, s3], by simp [go_sem]⟩,
        ⟨by simp [go_sem], by simp [go_sem], by simp [go_sem], by simp [go_sem]⟩, ⟨by simp [go_sem], by simp [go_sem], by simp [go_sem], by simp [go_sem]⟩⟩
  case rest =>
    obtain ⟨b6, b7, b10, b13, b15, b19, rfl, rfl, rfl, rfl, rfl, rfl, rfl, hbw, ⟨r6, q6⟩, ⟨r7, q7⟩, ⟨r15, q15⟩, ⟨r19, q19⟩, ⟨c10a, c10b, c10c, c10d⟩, c13a, c13b, c13c, c13d⟩ := hcut
    obtain ⟨W0, hW0⟩ : ∃ W0, W0 = wc := ⟨_, rfl⟩
    subst hW0
    have i6 : inB W0 b6 := okRow_lt r6
    have i7 : inB W0 b7 := okRow_lt r7
    have i15 : inB W0 b15 := okRow_lt r15
    have i19 : inB W0 b19 := okRow_lt r19
    have i10 : inB W0 b10 := table.lt_of_cell c10a
    have i13 : inB W0 b13 := table.lt_of_cell c13a
    obtain ⟨i0, hi, hz0, hz1, hz2⟩ := info_parts info_int
    have HCX : Hid (∀ k : Nat, k < 64 → W0.cell? ⟨b6, k / 4 * 4 + k % 4, none⟩ = some (.int .u64 (wordV xs k)) ∧ W0.cell? ⟨b7, k / 4 * 4 + k % 4, none⟩ = some (.int .u64 (wordV ys k))) := Lib.hid fun k hk => by
      rw [show k / 4 * 4 + k % 4 = k by omega, cell_rowOf r6, cell_rowOf r7, q6, q7]
      have e : ∀ zs : List Int, wordV zs k = wordAt zs k := fun zs => by unfold wordV wordAt; rw [if_pos (by omega)]; rfl
      rw [e, e]
      exact ⟨wordAt_cell HX.out hk, wordAt_cell HY.out hk⟩
    have Q6 := Lib.hid q6
    have Q7 := Lib.hid q7
    have Q15 := Lib.hid q15
    have Q19 := Lib.hid q19
    clear q6 q7 q15 q19
    go_wp2
    go_loopw [21, 52] (Rel xs ys W0) (fun _ i _ => 64 - (intOf i).toNat)
    case atStart => exact ⟨0, #[], _, 0, by omega, rfl, later_zero _, rfl, World.ownsRow_nil _ _ _ _⟩
    case round =>
      obtain ⟨k, l, d, n, hk, rfl, rfl, hn, hown⟩ := hrel
      by_cases hlt : k < 64
      · have HO := Lib.hid hown
        have hn64 : n ≤ 64 := by have := diffs_len xs ys k; omega
        have HN := Lib.hid hn
        obtain ⟨sa, sc, hv⟩ := own_form hown
        subst hv
        obtain ⟨g6, g7⟩ := HCX.out k hlt
        have b1 : k / 4 < 16 := by omega
        have b2 : k % 4 < 4 := by omega
        clear hown hn
        by_cases hd : wordV xs k = wordV ys k
        · have hd' : (wordV xs k != wordV ys k) = false := by simpa using hd
          have HD := Lib.hid hd
          clear hd
          go_wp2
          go_quiet (fail)
          go_wp2
          go_roundw
          case rel => exact ⟨k + 1, l, d + nq, n, by omega, by go_num, rfl, by rw [diffs_eq HD.out]; exact HN.out, by rw [diffs_eq HD.out]; exact own_swap HO.out (Nat.le_refl _) rfl⟩
          case measure => simp [intOf]; omega
        · have hd' : (wordV xs k != wordV ys k) = true := by simpa using hd
          have HD := Lib.hid hd
          clear hd
          go_wp2
          go_quiet (fail)
          go_wp2_with (at_builtin; refine wpList_append_own _ rfl _ _ 35 rfl W0.heap.size 3 i0 (.int .i64 0) 1 8 Try.underlying35 hi hz0 hz1 hz2 rfl (by decide) _ _ _ rfl ((own_swap (W1 := W0) (d' := d + nq) HO.out (Nat.le_refl _) rfl).alloc _) _ 1 1 [.int .i64 (k : Int)] rfl rfl ?c1 ?c2 ?c3 ?c4 ?c5 ?_)
          case c1 => exact one_new (by simp)
          case c2 => intro u hu; simp at hu; subst hu; rfl
          case c3 => unfold maxLen; omega
          case c4 => omega
          case c5 => simp; omega
          intro v' w1 hown' hgrow _
          have hb : Below W0.heap.size W0 w1 :=
            below_grown (by repeat (first | exact Below.refl _ _ | apply bs_later | apply bs_alloc | apply bs_drew | apply bs_drewN)) hgrow (fun g hg => by have := (HO.out.lt g hg).1; omega)
          obtain ⟨l3, d3, rfl⟩ := later_of hb
          have HO' := Lib.hid hown'
          clear hb hgrow hown'
          go_wp2
          go_roundw
          case rel => exact ⟨k + 1, l3, d3, n + 1, by omega, by go_num, rfl, by rw [diffs_ne HD.out, List.length_append, ← HN.out]; rfl, by rw [diffs_ne HD.out, List.map_append]; exact HO'.out⟩
          case measure => simp [intOf]; omega
      · obtain rfl : k = 64 := by omega
        have HO := Lib.hid hown
        have HN := Lib.hid hn
        obtain ⟨sa, sc, hv⟩ := own_form hown
        subst hv
        clear hown hn
        have q6 := Q6.out
        have q7 := Q7.out
        have hdl : (diffs xs ys 64).length ≤ 64 := diffs_len xs ys 64
        have PS := fun w => same_any xs ys HX.out HY.out w
        generalize diffs xs ys 64 = D at *
        obtain rfl : n = D.length := HN.out
        have HS := Lib.hid PS
        have hz := run_same_mem zeroXs zeroXs_len zeroXs_wf
        clear HN PS
        go_wp2_with (refine wpList_store_r rfl 26 _ _ rfl _ rfl (memA zeroXs) (congrArg Value.agg zero_is) 64 (by kernel_rfl) (by (simp [go_sem, zeroXs_sz]; done)) (by (simp [zeroXs_sz]; done)) (memA_one _) ?_; intro W hW; simp [go_sem] at hW; subst hW)
        go_frame
        go_cut [86] (fun c86 wx => c86 = .bool false ∧ Below ((W0.later l d).alloc (.cells (memA zeroXs) 26)).heap.size ((W0.later l d).alloc (.cells (memA zeroXs) 26)) wx)
        case first =>
          have hu26 := Try.underlying26
          have hi1 : (Try.prog.info? 26).map (·.size) = some (zeroXs.map (Value.int .u64)).length := by rw [List.length_map, zeroXs_len]; kernel_rfl
          have hi2 : (Try.prog.info? 26).map (·.size) = some (xs.map (Value.int .u64)).length := by rw [List.length_map, HX.out]; kernel_rfl
          have hi3 : (Try.prog.info? 26).map (·.size) = some (ys.map (Value.int .u64)).length := by rw [List.length_map, HY.out]; kernel_rfl
          have hzz : ∀ w, (Op.equalIn 10000 26 (.agg (memA zeroXs)) (.agg (zeroXs.map (Value.int .u64)).toArray)).run Try.prog w = .ok true w := hz
          have hst := start_S (W := W0.later l d) (t := 26) zeroXs (xs := xs) (ys := ys) (b6 := b6) (b7 := b7) (b23 := W0.heap.size + l.size) (size_later W0 l d).symm ⟨(okRow_later l d).2 (.inl r6), by rw [rowOf_later l d i6]; exact q6⟩ ⟨(okRow_later l d).2 (.inl r7), by rw [rowOf_later l d i7]; exact q7⟩
          refine wp_region_held_drew (S := fun w' => w'.rangeAt (W0.heap.size + l.size) 0 (zeroXs.map (Value.int .u64)) ∧ w'.rangeAt b6 0 (xs.map (Value.int .u64)) ∧ w'.rangeAt b7 0 (ys.map (Value.int .u64)) ∧ Below ((W0.later l d).alloc (.cells (memA zeroXs) 26)).heap.size ((W0.later l d).alloc (.cells (memA zeroXs) 26)) w') (by kernel_rfl) hst (fun hHeld => ?_)
          refine wpAnyH_take (i := 1) rfl (by kernel_rfl) (by kernel_rfl) (by kernel_rfl) (fun _ _ _ h => h) (yieldsIf_load_mid (by rfl) _ _ rfl _ _ rfl _ _ (fun w hw => hw.1) hu26 rfl hi1) (by assumption) ?_
          try simp only [Act.put, List.getElem_toArray, List.getElem_cons_succ, List.getElem_cons_zero, List.setIfInBounds_toArray, List.set_cons_zero, List.set_cons_succ]
          refine wpAnyH_ready (rs := [0]) (by kernel_rfl) (by simp) ?_
          refine AllReadyH.cons rfl (fun K hK => ?_) AllReadyH.nil
          go_simp
          (refine (new_any _).mono ?_; rintro e w1 ⟨rfl, hb1⟩)
          refine hK.out _ _ (keep_S hHeld hb1) (fun hHeld => ?_)
          clear hK K
          try simp only [Act.put, List.getElem_toArray, List.getElem_cons_succ, List.getElem_cons_zero, List.setIfInBounds_toArray, List.set_cons_zero, List.set_cons_succ]
          refine wpAnyH_take (i := 2) (v := ?v2) rfl (by kernel_rfl) (by kernel_rfl) (by kernel_rfl) (fun _ _ _ h => h) (Or.inl ⟨by rfl, ?y2⟩) (by assumption) ?r2
          case y2 => intro w hw; go_simp; with_reducible rfl
          try simp only [Act.put, List.getElem_toArray, List.getElem_cons_succ, List.getElem_cons_zero, List.setIfInBounds_toArray, List.set_cons_zero, List.set_cons_succ]
          refine wpAnyH_take (i := 3) (v := ?v3) rfl (by kernel_rfl) (by kernel_rfl) (by kernel_rfl) (fun _ _ _ h => h) (Or.inl ⟨by rfl, ?y3⟩) (by assumption) ?r3
          case y3 => intro w hw; go_simp; with_reducible rfl
          try simp only [Act.put, List.getElem_toArray, List.getElem_cons_succ, List.getElem_cons_zero, List.setIfInBounds_toArray, List.set_cons_zero, List.set_cons_succ]
          refine wpAnyH_take (i := 4) rfl (by kernel_rfl) (by kernel_rfl) (by kernel_rfl) (fun _ _ _ h => h) (yieldsIf_load_mid (by rfl) _ _ rfl _ _ rfl _ _ (fun w hw => hw.2.1) hu26 rfl hi2) (by assumption) ?_
          try simp only [Act.put, List.getElem_toArray, List.getElem_cons_succ, List.getElem_cons_zero, List.setIfInBounds_toArray, List.set_cons_zero, List.set_cons_succ]
          refine wpAnyH_take (i := 5) rfl (by kernel_rfl) (by kernel_rfl) (by kernel_rfl) (fun _ _ _ h => h) (yieldsIf_load_mid (by rfl) _ _ rfl _ _ rfl _ _ (fun w hw => hw.2.2.1) hu26 rfl hi3) (by assumption) ?_
          try simp only [Act.put, List.getElem_toArray, List.getElem_cons_succ, List.getElem_cons_zero, List.setIfInBounds_toArray, List.set_cons_zero, List.set_cons_succ]
          refine wpAnyH_take (i := 7) (v := ?v7) rfl (by kernel_rfl) (by kernel_rfl) (by kernel_rfl) (fun _ _ _ h => h) (Or.inl ⟨by rfl, ?y7⟩) (by assumption) ?r7
          case y7 => intro w hw; go_simp; with_reducible rfl
          try simp only [Act.put, List.getElem_toArray, List.getElem_cons_succ, List.getElem_cons_zero, List.setIfInBounds_toArray, List.set_cons_zero, List.set_cons_succ]
          refine wpAnyH_ready (rs := [6]) (by kernel_rfl) (by simp) ?_
          refine AllReadyH.cons rfl (fun K hK => ?_) AllReadyH.nil
          go_simp
          (refine (HS.out _).mono ?_; rintro e w2 ⟨sv, rfl, hown, hb2⟩; obtain ⟨ta, tc, hsv⟩ := own_form hown; subst hsv)
          refine hK.out _ _ (keep_S hHeld hb2) (fun hHeld => ?_)
          clear hK K
          try simp only [Act.put, List.getElem_toArray, List.getElem_cons_succ, List.getElem_cons_zero, List.setIfInBounds_toArray, List.set_cons_zero, List.set_cons_succ]
          refine wpAnyH_ready (rs := [8]) (by kernel_rfl) (by simp) ?_
          refine AllReadyH.cons rfl (fun K hK => ?_) AllReadyH.nil
          go_simp
          (refine (eqInt.equal_same _ _ _ _ _ D D rfl (by unfold maxLen; omega) (own_ints hown).2 ((own_ints (HO.out.alloc _)).2.below hHeld.2.2.2)).mono ?_; rintro e w3 ⟨rfl, nd, rfl⟩; rw [decide_eq_true rfl])
          refine hK.out _ _ (keep_S hHeld (below_drewN (Below.refl _ _) _)) (fun hHeld => ?_)
          clear hK K
          try simp only [Act.put, List.getElem_toArray, List.getElem_cons_succ, List.getElem_cons_zero, List.setIfInBounds_toArray, List.set_cons_zero, List.set_cons_succ]
          refine wpAnyH_take (i := 9) (v := ?v9) rfl (by kernel_rfl) (by kernel_rfl) (by kernel_rfl) (fun _ _ _ h => h) (Or.inl ⟨by rfl, ?y9⟩) (by assumption) ?r9
          case y9 => intro w hw; go_simp; with_reducible rfl
          try simp only [Act.put, List.getElem_toArray, List.getElem_cons_succ, List.getElem_cons_zero, List.setIfInBounds_toArray, List.set_cons_zero, List.set_cons_succ]
          refine wpAnyH_take (i := 10) (v := ?v10) rfl (by kernel_rfl) (by kernel_rfl) (by kernel_rfl) (fun _ _ _ h => h) (Or.inl ⟨by rfl, ?y10⟩) (by assumption) ?r10
          case y10 => intro w hw; go_simp; with_reducible rfl
          try simp only [Act.put, List.getElem_toArray, List.getElem_cons_succ, List.getElem_cons_zero, List.setIfInBounds_toArray, List.set_cons_zero, List.set_cons_succ]
          refine wpAnyH_done (by kernel_rfl) ?_ _
          go_wp2_with (fail)
          go_meet
          exact ⟨rfl, hHeld.2.2.2⟩
        case rest =>
          obtain ⟨rfl, hbx⟩ := hcut
          obtain ⟨l', d', rfl⟩ := later_of hbx
          have q15 := Q15.out
          have q19 := Q19.out
          clear hbx HO
          go_upto_if 89 with (go_at_call 21; refine (goodLine_any _ _).mono ?_; rintro e w1 ⟨rfl, rfl⟩)
          go_cut [89] (fun c89 wx => ∃ l2 d2, wx = ((W0.later l d).alloc (.cells (memA zeroXs) 26)).later l2 d2)
          case first =>
            rcases HC.out with ⟨k, rfl, h16, rfl, rfl, rfl, rfl, rfl, rfl⟩ | ⟨hbad, rfl, rfl, rfl, rfl, rfl, rfl⟩
            · have hsp : spanB (k : Int) 0 15 = true := spanB_yes (by omega)
              simp only [hsp, Bool.not_true]
              have m0 := wordAt_cell HX.out (i := k * 4) (by omega)
              have m1 := wordAt_cell HX.out (i := k * 4 + 1) (by omega)
              have m2 := wordAt_cell HX.out (i := k * 4 + 2) (by omega)
              have m3 := wordAt_cell HX.out (i := k * 4 + 3) (by omega)
              have c0 : W0.cell? ⟨b6, k * 4, none⟩ = some (.int .u64 (wordAt xs (k * 4))) := by rw [cell_rowOf r6, q6]; exact wordAt_cell HX.out (by omega)
              have c1 : W0.cell? ⟨b6, k * 4 + 1, none⟩ = some (.int .u64 (wordAt xs (k * 4 + 1))) := by rw [cell_rowOf r6, q6]; exact wordAt_cell HX.out (by omega)
              have c2 : W0.cell? ⟨b6, k * 4 + 2, none⟩ = some (.int .u64 (wordAt xs (k * 4 + 2))) := by rw [cell_rowOf r6, q6]; exact wordAt_cell HX.out (by omega)
              have c3 : W0.cell? ⟨b6, k * 4 + 3, none⟩ = some (.int .u64 (wordAt xs (k * 4 + 3))) := by rw [cell_rowOf r6, q6]; exact wordAt_cell HX.out (by omega)
              have hl := fun w => run_same_line w (wordAt xs (k * 4)) (wordAt xs (k * 4 + 1)) (wordAt xs (k * 4 + 2)) (wordAt xs (k * 4 + 3)) (wordAt_wf wx _) (wordAt_wf wx _) (wordAt_wf wx _) (wordAt_wf wx _)
              have hlm := run_same_mem (lineM xs k p q r s) (by rw [lineM_len]; exact HX.out) (lineM_wf wx k wp wq wr ws)
              have h0 := lineM_cells xs k p q r s
              go_wp2_with (first
                | (refine wpList_load_r rfl 26 _ rfl _ rfl 64 _ Try.underlying26 rfl (by kernel_rfl) (by (simp [go_sem, r6, r15, r19, sx, s2, s3, zeroXs_sz]; done)) ?_; intro C hC; simp [go_sem, i6, i15, i19, q6, q15, q19] at hC; subst hC)
                | (refine wpList_store_r rfl 26 _ _ rfl _ rfl _ rfl 64 (by kernel_rfl) (by (simp [go_sem, sx]; done)) (by (simp [sx]; done)) (memA_one _) ?_; intro W hW; simp [go_sem] at hW; subst hW))
              have hu26 := Try.underlying26
              have hiz : (Try.prog.info? 26).map (·.size) = some ((lineM xs k p q r s).map (Value.int .u64)).length := by rw [List.length_map, lineM_len, HX.out]; kernel_rfl
              have hlm' : ∀ w, (Op.equalIn 10000 26 (.agg ((lineM xs k p q r s).map (Value.int .u64)).toArray) (.agg ((lineM xs k p q r s).map (Value.int .u64)).toArray)).run Try.prog w = .ok true w := hlm
              have hr15 : (((((W0.later l d).alloc (.cells (memA zeroXs) 26)).later l' d').alloc (.cells (memA (lineM xs k p q r s)) 26))).drew.rangeAt b15 0 ((lineM xs k p q r s).map (Value.int .u64)) := (World.rangeAt_drew _ _ _ _).2 (World.rangeAt_alloc (range_later (World.rangeAt_alloc (range_later (range_mem ⟨r15, q15⟩) _ _) _) _ _) _)
              have hr24 : (((((W0.later l d).alloc (.cells (memA zeroXs) 26)).later l' d').alloc (.cells (memA (lineM xs k p q r s)) 26))).drew.rangeAt (W0.heap.size + l.size + 1 + l'.size) 0 ((lineM xs k p q r s).map (Value.int .u64)) := (World.rangeAt_drew _ _ _ _).2 (range_new (by simp))
              have h16i : (k : Int) < 16 := by omega
              refine wp_region_held_drew (S := fun w' => w' = (((((W0.later l d).alloc (.cells (memA zeroXs) 26)).later l' d').alloc (.cells (memA (lineM xs k p q r s)) 26))).drew) (by kernel_rfl) rfl (fun hHeld => ?_)
              clear hHeld
              refine wpAnyH_take (i := 0) (v := ?va0) rfl (by kernel_rfl) (by kernel_rfl) (by kernel_rfl) (fun _ _ _ h => h) (Or.inl ⟨by rfl, ?ya0⟩) rfl ?ra0
              case ya0 => intro w hw; subst hw; go_simp; with_reducible rfl
              try simp only [Act.put, List.getElem_toArray, List.getElem_cons_succ, List.getElem_cons_zero, List.setIfInBounds_toArray, List.set_cons_zero, List.set_cons_succ]
              refine wpAnyH_take (i := 1) (v := ?va1) rfl (by kernel_rfl) (by kernel_rfl) (by kernel_rfl) (fun _ _ _ h => h) (Or.inl ⟨by rfl, ?ya1⟩) rfl ?ra1
              case ya1 => intro w hw; subst hw; go_simp; with_reducible rfl
              try simp only [Act.put, List.getElem_toArray, List.getElem_cons_succ, List.getElem_cons_zero, List.setIfInBounds_toArray, List.set_cons_zero, List.set_cons_succ]
              refine wpAnyH_take (i := 2) (v := ?va2) rfl (by kernel_rfl) (by kernel_rfl) (by kernel_rfl) (fun _ _ _ h => h) (Or.inl ⟨by rfl, ?ya2⟩) rfl ?ra2
              case ya2 => intro w hw; subst hw; go_simp; with_reducible rfl
              try simp only [Act.put, List.getElem_toArray, List.getElem_cons_succ, List.getElem_cons_zero, List.setIfInBounds_toArray, List.set_cons_zero, List.set_cons_succ]
              refine wpAnyH_take (i := 3) (v := ?va3) rfl (by kernel_rfl) (by kernel_rfl) (by kernel_rfl) (fun _ _ _ h => h) (Or.inl ⟨by rfl, ?ya3⟩) rfl ?ra3
              case ya3 => intro w hw; subst hw; go_simp; with_reducible rfl
              try simp only [Act.put, List.getElem_toArray, List.getElem_cons_succ, List.getElem_cons_zero, List.setIfInBounds_toArray, List.set_cons_zero, List.set_cons_succ]
              refine wpAnyH_take (i := 4) (v := ?va4) rfl (by kernel_rfl) (by kernel_rfl) (by kernel_rfl) (fun _ _ _ h => h) (Or.inl ⟨by rfl, ?ya4⟩) rfl ?ra4
              case ya4 => intro w hw; subst hw; go_simp; with_reducible rfl
              try simp only [Act.put, List.getElem_toArray, List.getElem_cons_succ, List.getElem_cons_zero, List.setIfInBounds_toArray, List.set_cons_zero, List.set_cons_succ]
              refine wpAnyH_take (i := 5) (v := ?va5) rfl (by kernel_rfl) (by kernel_rfl) (by kernel_rfl) (fun _ _ _ h => h) (Or.inl ⟨by rfl, ?ya5⟩) rfl ?ra5
              case ya5 => intro w hw; subst hw; go_simp; with_reducible rfl
              try simp only [Act.put, List.getElem_toArray, List.getElem_cons_succ, List.getElem_cons_zero, List.setIfInBounds_toArray, List.set_cons_zero, List.set_cons_succ]
              refine wpAnyH_take (i := 6) (v := ?va6) rfl (by kernel_rfl) (by kernel_rfl) (by kernel_rfl) (fun _ _ _ h => h) (Or.inl ⟨by rfl, ?ya6⟩) rfl ?ra6
              case ya6 => intro w hw; subst hw; go_simp; with_reducible rfl
              try simp only [Act.put, List.getElem_toArray, List.getElem_cons_succ, List.getElem_cons_zero, List.setIfInBounds_toArray, List.set_cons_zero, List.set_cons_succ]
              refine wpAnyH_take (i := 7) (v := ?va7) rfl (by kernel_rfl) (by kernel_rfl) (by kernel_rfl) (fun _ _ _ h => h) (Or.inl ⟨by rfl, ?ya7⟩) rfl ?ra7
              case ya7 => intro w hw; subst hw; go_simp; with_reducible rfl
              try simp only [Act.put, List.getElem_toArray, List.getElem_cons_succ, List.getElem_cons_zero, List.setIfInBounds_toArray, List.set_cons_zero, List.set_cons_succ]
              refine wpAnyH_take (i := 8) (v := ?va8) rfl (by kernel_rfl) (by kernel_rfl) (by kernel_rfl) (fun _ _ _ h => h) (Or.inl ⟨by rfl, ?ya8⟩) rfl ?ra8
              case ya8 => intro w hw; subst hw; go_simp; with_reducible rfl
              try simp only [Act.put, List.getElem_toArray, List.getElem_cons_succ, List.getElem_cons_zero, List.setIfInBounds_toArray, List.set_cons_zero, List.set_cons_succ]
              refine wpAnyH_take (i := 9) (v := ?va9) rfl (by kernel_rfl) (by kernel_rfl) (by kernel_rfl) (fun _ _ _ h => h) (Or.inl ⟨by rfl, ?ya9⟩) rfl ?ra9
              case ya9 => intro w hw; subst hw; go_simp; with_reducible rfl
              try simp only [Act.put, List.getElem_toArray, List.getElem_cons_succ, List.getElem_cons_zero, List.setIfInBounds_toArray, List.set_cons_zero, List.set_cons_succ]
              refine wpAnyH_take (i := 10) rfl (by kernel_rfl) (by kernel_rfl) (by kernel_rfl) (fun _ _ _ h => h) (yieldsIf_load_mid (by rfl) _ _ rfl _ _ rfl _ _ (fun w hw => by subst hw; exact hr15) hu26 rfl hiz) rfl ?_
              try simp only [Act.put, List.getElem_toArray, List.getElem_cons_succ, List.getElem_cons_zero, List.setIfInBounds_toArray, List.set_cons_zero, List.set_cons_succ]
              refine wpAnyH_take (i := 11) rfl (by kernel_rfl) (by kernel_rfl) (by kernel_rfl) (fun _ _ _ h => h) (yieldsIf_load_mid (by rfl) _ _ rfl _ _ rfl _ _ (fun w hw => by subst hw; exact hr24) hu26 rfl hiz) rfl ?_
              try simp only [Act.put, List.getElem_toArray, List.getElem_cons_succ, List.getElem_cons_zero, List.setIfInBounds_toArray, List.set_cons_zero, List.set_cons_succ]
              refine wpAnyH_take (i := 12) (v := ?va12) rfl (by kernel_rfl) (by kernel_rfl) (by kernel_rfl) (fun _ _ _ h => h) (Or.inl ⟨by rfl, ?ya12⟩) rfl ?ra12
              case ya12 => intro w hw; subst hw; go_simp; with_reducible rfl
              try simp only [Act.put, List.getElem_toArray, List.getElem_cons_succ, List.getElem_cons_zero, List.setIfInBounds_toArray, List.set_cons_zero, List.set_cons_succ]
              refine wpAnyH_take (i := 13) (v := ?va13) rfl (by kernel_rfl) (by kernel_rfl) (by kernel_rfl) (fun _ _ _ h => h) (Or.inl ⟨by rfl, ?ya13⟩) rfl ?ra13
              case ya13 => intro w hw; subst hw; go_simp; with_reducible rfl
              try simp only [Act.put, List.getElem_toArray, List.getElem_cons_succ, List.getElem_cons_zero, List.setIfInBounds_toArray, List.set_cons_zero, List.set_cons_succ]
              refine wpAnyH_take (i := 14) (v := ?va14) rfl (by kernel_rfl) (by kernel_rfl) (by kernel_rfl) (fun _ _ _ h => h) (Or.inl ⟨by rfl, ?ya14⟩) rfl ?ra14
              case ya14 => intro w hw; subst hw; go_simp; with_reducible rfl
              try simp only [Act.put, List.getElem_toArray, List.getElem_cons_succ, List.getElem_cons_zero, List.setIfInBounds_toArray, List.set_cons_zero, List.set_cons_succ]
              refine wpAnyH_take (i := 15) (v := ?va15) rfl (by kernel_rfl) (by kernel_rfl) (by kernel_rfl) (fun _ _ _ h => h) (Or.inl ⟨by rfl, ?ya15⟩) rfl ?ra15
              case ya15 => intro w hw; subst hw; go_simp; with_reducible rfl
              try simp only [Act.put, List.getElem_toArray, List.getElem_cons_succ, List.getElem_cons_zero, List.setIfInBounds_toArray, List.set_cons_zero, List.set_cons_succ]
              refine wpAnyH_take (i := 16) (v := ?va16) rfl (by kernel_rfl) (by kernel_rfl) (by kernel_rfl) (fun _ _ _ h => h) (Or.inl ⟨by rfl, ?ya16⟩) rfl ?ra16
              case ya16 => intro w hw; subst hw; go_simp; with_reducible rfl
              try simp only [Act.put, List.getElem_toArray, List.getElem_cons_succ, List.getElem_cons_zero, List.setIfInBounds_toArray, List.set_cons_zero, List.set_cons_succ]
              refine wpAnyH_take (i := 17) (v := ?va17) rfl (by kernel_rfl) (by kernel_rfl) (by kernel_rfl) (fun _ _ _ h => h) (Or.inl ⟨by rfl, ?ya17⟩) rfl ?ra17
              case ya17 => intro w hw; subst hw; go_simp; with_reducible rfl
              try simp only [Act.put, List.getElem_toArray, List.getElem_cons_succ, List.getElem_cons_zero, List.setIfInBounds_toArray, List.set_cons_zero, List.set_cons_succ]
              refine wpAnyH_done (by kernel_rfl) ?_ _
              go_wp2_with (fail)
              go_meet
              exact ⟨l'.push (.cells (memA (lineM xs k p q r s)) 26), d' + 1, by rw [later_alloc]; rfl⟩
            · have hsp : spanB line 0 15 = false := spanB_no (by omega)
              have hzl := fun w => run_same_line w 0 0 0 0 wf_zero wf_zero wf_zero wf_zero
              clear hbad
              simp only [hsp, Bool.not_false]
              go_wp2_with (first
                | (refine wpList_load_r rfl 26 _ rfl _ rfl 64 _ Try.underlying26 rfl (by kernel_rfl) (by (simp [go_sem, r6, r15, r19, sx, s2, s3, zeroXs_sz]; done)) ?_; intro C hC; simp [go_sem, i6, i15, i19, q6, q15, q19] at hC; subst hC)
                | (refine wpList_load_w (by rfl) 26 _ rfl _ rfl 64 _ Try.underlying26 rfl (by kernel_rfl) (by (simp [go_sem, r6, r15, r19, sx, s2, s3, zeroXs_sz]; done)) ?_; intro C hC; simp [go_sem, i6, i15, i19, q6, q15, q19] at hC; subst hC))
              go_meet
              exact ⟨l', d', rfl⟩
          case rest =>
            obtain ⟨l2, d2, rfl⟩ := hcut
            rcases HPC.out with ⟨ha0, ha3, rfl⟩ | ⟨hbad, rfl⟩
            · obtain ⟨i, rfl⟩ := Int.eq_ofNat_of_zero_le ha0
              have hsp : spanB (i : Int) 0 63 = true := spanB_yes (by omega)
              have b1 : i / 4 < 16 := by omega
              have b2 : i % 4 < 4 := by omega
              have he : lineE (i : Int) = 0 := if_pos (by omega)
              obtain ⟨g6, _⟩ := HCX.out i (by omega)
              have hx6 : (memA xs)[i / 4 * 4 + i % 4]? = some (.int .u64 (wordV xs i)) := by
                rw [show i / 4 * 4 + i % 4 = i by omega]
                have e1 : wordV xs i = wordAt xs i := by unfold wordV wordAt; rw [if_pos (by omega)]; rfl
                rw [e1]; exact wordAt_cell HX.out (by omega)
              have hset : (memA xs).setIfInBounds (i / 4 * 4 + i % 4) (.int .u64 v) = memA (xs.set (i : Int).toNat v) := by
                rw [memA_set, show i / 4 * 4 + i % 4 = (i : Int).toNat by omega]
              have hsm := run_same_mem (xs.set (i : Int).toNat v) (by rw [List.length_set]; exact HX.out) (set_wf wx _ wv)
              generalize xs.set (i : Int).toNat v = ps at *
              go_wp2_with (first
                | (refine wpList_load_w (by rfl) 26 _ rfl _ rfl 64 _ Try.underlying26 rfl (by kernel_rfl) (by (simp [go_sem, r6, r15, r19, sx, s2, s3, zeroXs_sz]; done)) ?_; intro C hC; simp [go_sem, i6, i15, i19, q6, q15, q19] at hC; subst hC)
                | (refine wpList_load_r rfl 26 _ rfl _ rfl 64 _ Try.underlying26 rfl (by kernel_rfl) (by (simp [go_sem, r6, r15, r19, sx, s2, s3, zeroXs_sz]; done)) ?_; intro C hC; simp [go_sem, i6, i15, i19, q6, q15, q19] at hC; subst hC)
                | (refine wpList_store_r rfl 26 _ _ rfl _ rfl _ rfl 64 (by kernel_rfl) (by (simp [go_sem, sx]; done)) (by (simp [sx]; done)) (memA_one _) ?_; intro W hW; simp [go_sem] at hW; subst hW)
                | (go_at_call 22; refine (goodAddr_any _ _).mono ?_; rintro e w1 ⟨rfl, rfl⟩))
              go_ret
              exact ⟨rfl, by repeat (first | exact hbw | apply bs_later | apply bs_alloc | apply bs_drew | apply bs_drewN)⟩
            · have hsp : spanB a 0 63 = false := spanB_no (by omega)
              have he : lineE a = 4 := if_neg hbad
              have hwv : wordV xs a = 0 := if_neg hbad
              clear hbad
              go_wp2_with (first
                | (refine wpList_load_r rfl 26 _ rfl _ rfl 64 _ Try.underlying26 rfl (by kernel_rfl) (by (simp [go_sem, r6, r15, r19, sx, s2, s3, zeroXs_sz]; done)) ?_; intro C hC; simp [go_sem, i6, i15, i19, q6, q15, q19] at hC; subst hC)
                | (refine wpList_load_w (by rfl) 26 _ rfl _ rfl 64 _ Try.underlying26 rfl (by kernel_rfl) (by (simp [go_sem, r6, r15, r19, sx, s2, s3, zeroXs_sz]; done)) ?_; intro C hC; simp [go_sem, i6, i15, i19, q6, q15, q19] at hC; subst hC)
                | (go_at_call 22; refine (goodAddr_any _ _).mono ?_; rintro e w1 ⟨rfl, rfl⟩))
              go_ret
              exact ⟨rfl, by repeat (first | exact hbw | apply bs_later | apply bs_alloc | apply bs_drew | apply bs_drewN)⟩

theorem walk (xs ys : List Int) (line a p q r s v : Int) (w : World) (hx : xs.length = 64) (wx : ∀ x ∈ xs, (Lit.int .u64 x).wf = true) (hy : ys.length = 64) (wy : ∀ x ∈ ys, (Lit.int .u64 x).wf = true) (wl : (Lit.int .i64 line).wf = true) (wa : (Lit.int .i64 a).wf = true)
    (wp : (Lit.int .u64 p).wf = true) (wq : (Lit.int .u64 q).wf = true) (wr : (Lit.int .u64 r).wf = true) (ws : (Lit.int .u64 s).wf = true) (wv : (Lit.int .u64 v).wf = true) :
    Calls Try.prog 3 #[.agg (xs.map (Value.int .u64)).toArray, .agg (ys.map (Value.int .u64)).toArray, .int .i64 line, .int .i64 a, .agg #[.int .u64 p, .int .u64 q, .int .u64 r, .int .u64 s], .int .u64 v] w (Ret (.bool true) w) :=
  walk_any xs ys hx hy wx line a p q r s v w wp wq wr ws wv

-- the frame, by program
set_option maxRecDepth 100000 in
theorem lifted (os : Os) (started : os.Started) (H : Type) (enc : TypeId × Value → H) :
    ReturnsInHanded {} Try.checked os 3 .any (Rows.bankTellsSpec.pre6 enc Try.prog Try.f3 Rows.bankTellsRow.domain false) (Rows.bankTellsSpec.post enc Try.prog Try.f3 false true false false) := by
  refine returnsInHanded_of_change (C := Try.checked) own started (by kernel_rfl) Try.func3
    (ChangeSpec.witness6 (enc := enc) (C := Try.checked) false ⟨#[], #[.agg (Array.replicate 64 (.int .u64 0)), .agg (Array.replicate 64 (.int .u64 0)), .int .i64 0, .int .i64 0, .agg #[.int .u64 0, .int .u64 0, .int .u64 0, .int .u64 0], .int .u64 0], []⟩ 8 (by kernel_rfl) (by kernel_rfl) (by kernel_rfl) (by kernel_rfl)) ?_
  intro W base args ds gs before hval0 hW hcnd _
  have hval : ∀ (j : Nat) t v, Try.f3.params[j]? = some t → args[j]? = some v → Value.okWide Try.prog W .any base t v := hval0
  have hW' := hW
  obtain ⟨p, q, hA0, hV, rfl, hfz, hnd⟩ := hW
  have hA : DataW.TrodAll enc Try.prog W 0 (fun _ => true) true Try.f3.params.toList args.toList ds p := hA0
  rw [Try.params3] at hA hval
  obtain ⟨v0, vs0, d0, ds0, p0, q0, hargs, rfl, rfl, h0, r0⟩ := trodAll_cons hA
  obtain ⟨v1, vs1, d1, ds1, p1, q1, rfl, rfl, rfl, h1, r1⟩ := trodAll_cons r0
  obtain ⟨v2, vs2, d2, ds2, p2, q2, rfl, rfl, rfl, h2, r2⟩ := trodAll_cons r1
  obtain ⟨v3, vs3, d3, ds3, p3, q3, rfl, rfl, rfl, h3, r3⟩ := trodAll_cons r2
  obtain ⟨v4, vs4, d4, ds4, p4, q4, rfl, rfl, rfl, h4, r4⟩ := trodAll_cons r3
  obtain ⟨v5, vs5, d5, ds5, p5, q5, rfl, rfl, rfl, h5, r5⟩ := trodAll_cons r4
  obtain ⟨rfl, rfl, rfl⟩ := trodAll_nil r5
  obtain rfl : args = #[v0, v1, v2, v3, v4, v5] := by cases args; simp_all
  obtain ⟨rfl, rfl⟩ := trodVars_none hV
  have k0 := h0
  have lt0 : ∀ x ∈ p0, x.block < W.heap.size := by obtain ⟨m, hm⟩ := k0; exact DataW.trod_lt m _ _ _ hm
  have k1 := h1
  have lt1 : ∀ x ∈ p1, x.block < W.heap.size := by obtain ⟨m, hm⟩ := k1; exact DataW.trod_lt m _ _ _ hm
  have k2 := h2
  have lt2 : ∀ x ∈ p2, x.block < W.heap.size := by obtain ⟨m, hm⟩ := k2; exact DataW.trod_lt m _ _ _ hm
  have k3 := h3
  have lt3 : ∀ x ∈ p3, x.block < W.heap.size := by obtain ⟨m, hm⟩ := k3; exact DataW.trod_lt m _ _ _ hm
  have k4 := h4
  have lt4 : ∀ x ∈ p4, x.block < W.heap.size := by obtain ⟨m, hm⟩ := k4; exact DataW.trod_lt m _ _ _ hm
  have k5 := h5
  have lt5 : ∀ x ∈ p5, x.block < W.heap.size := by obtain ⟨m, hm⟩ := k5; exact DataW.trod_lt m _ _ _ hm
  obtain ⟨cs0, rfl, al0⟩ := open_flat (n := 4) (List.replicate 64 (.int .u64)) (by kernel_rfl) (by kernel_rfl) (.inr ⟨_, _, Try.underlying26⟩) (hval 0 26 v0 rfl rfl) h0
  obtain ⟨a0, l0, rfl, w0⟩ := all2_ints al0
  obtain ⟨cs1, rfl, al1⟩ := open_flat (n := 4) (List.replicate 64 (.int .u64)) (by kernel_rfl) (by kernel_rfl) (.inr ⟨_, _, Try.underlying26⟩) (hval 1 26 v1 rfl rfl) h1
  obtain ⟨a1, l1, rfl, w1⟩ := all2_ints al1
  obtain ⟨a2, rfl, rfl, rfl, w2⟩ := open_int Try.underlying3 (hval 2 3 v2 rfl rfl) h2
  obtain ⟨a3, rfl, rfl, rfl, w3⟩ := open_int Try.underlying3 (hval 3 3 v3 rfl rfl) h3
  obtain ⟨cs4, rfl, al4⟩ := open_flat (n := 4) [.int .u64, .int .u64, .int .u64, .int .u64] (by kernel_rfl) (by kernel_rfl) (.inr ⟨_, _, Try.underlying24⟩) (hval 4 24 v4 rfl rfl) h4
  obtain ⟨a4x, a4y, a4z, a4u, rfl, w4x, w4y, w4z, w4u⟩ := all2_line al4
  obtain ⟨a5, rfl, rfl, rfl, w5⟩ := open_int Try.underlying22 (hval 5 22 v5 rfl rfl) h5
  clear hA0 hval0
  refine (walk a0 a1 a2 a3 a4x a4y a4z a4u a5 W l0 w0 l1 w1 w2 w3 w4x w4y w4z w4u w5).mono fun e W' ⟨he, bel⟩ => ?_
  subst he
  exact ⟨_, rfl, _, _, _, [], _, [], hW', trodAll_mk1 (shut_bool Try.underlying4 _), (trodAll_cons_mk (Below.trod laidOut (by kernel_rfl) (of_decide_eq_true (by kernel_rfl)) k0 bel lt0) (trodAll_cons_mk (Below.trod laidOut (by kernel_rfl) (of_decide_eq_true (by kernel_rfl)) k1 bel lt1) (trodAll_cons_mk (Below.trod laidOut (by kernel_rfl) (of_decide_eq_true (by kernel_rfl)) k2 bel lt2) (trodAll_cons_mk (Below.trod laidOut (by kernel_rfl) (of_decide_eq_true (by kernel_rfl)) k3 bel lt3) (trodAll_cons_mk (Below.trod laidOut (by kernel_rfl) (of_decide_eq_true (by kernel_rfl)) k4 bel lt4) (trodAll_cons_mk (Below.trod laidOut (by kernel_rfl) (of_decide_eq_true (by kernel_rfl)) k5 bel lt5) trodAll_mk0)))))), rfl, bel.frame _, fun h => by cases h⟩

theorem over : Rows.bankTellsRow.holds Try.pinned (OpenSpec.ofChange Rows.bankTellsSpec) :=
  OpenClaim.holds_of_wide 3 Try.f3 rfl rfl rfl rfl rfl rfl rfl ⟨rfl, rfl, rfl, rfl, rfl⟩ rfl rfl rfl rfl rfl (by kernel_rfl) Try.func3 (by kernel_rfl)
    (of_decide_eq_true (by kernel_rfl)) (by unfold Func.isWrapper; first | (rw [if_pos (by decide +kernel)]; kernel_rfl) | (rw [if_neg (by decide +kernel)]; exact ⟨rfl, rfl⟩))
    (fun os started H enc _ => lifted os started H enc)

theorem proved : Rows.BankTellsSaid := over

end Go.Proofs.Ytffhfpdmfegcpab.bankTells
