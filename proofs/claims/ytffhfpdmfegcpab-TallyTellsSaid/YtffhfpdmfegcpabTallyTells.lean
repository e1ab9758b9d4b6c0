/- Every function of package tally returns what the reference returns: for all arguments. -/
import Derived.Test.YtffhfpdmfegcpabTallyTellsP
import Derived.Test.YtffhfpdmfegcpabTallyCounts
import Derived.Test.YtffhfpdmfegcpabTallyLogs
import Derived.Test.YtffhfpdmfegcpabRefAtomic
import Derived.Test.YtffhfpdmfegcpabRefDeed
import Derived.Test.YtffhfpdmfegcpabRefCfg
import Derived.Test.YtffhfpdmfegcpabRange
import Derived.Test.YtffhfpdmfegcpabKnob
import Derived.Deep.DeepCutAuto
import Derived.Deep.CutBlock
namespace Go.Proofs.Ytffhfpdmfegcpab.tallyTells
open Go.ChangeShapes Go.WideShapes Go.ChangeAt Go.RowKit
open Go.Proofs.Ytffhfpdmfegcpab.base Go.Proofs.Ytffhfpdmfegcpab.knob Go.Proofs.Ytffhfpdmfegcpab.flat Go.Proofs.Ytffhfpdmfegcpab.same Go.Proofs.Ytffhfpdmfegcpab.table Go.Proofs.Ytffhfpdmfegcpab.addr Go.Proofs.Ytffhfpdmfegcpab.bank Go.Proofs.Ytffhfpdmfegcpab.atomic Go.Proofs.Ytffhfpdmfegcpab.memEq Go.Proofs.Ytffhfpdmfegcpab.told Go.Proofs.Ytffhfpdmfegcpab.prog Go.Proofs.Ytffhfpdmfegcpab.tally Go.Proofs.Ytffhfpdmfegcpab.range Go.Proofs.Ytffhfpdmfegcpab.refAtomic
set_option linter.unusedVariables false
set_option linter.unusedSimpArgs false

def LRes (nn : Nat) (E : Int) (ts : List E6) (a : Option Addr) (lo : Nat) (w : World) : Prop := (E = 0 ∧ lo = nn ∧ ListsAt ToldsAt w a (logsL nn ts)) ∨ (¬ E = 0 ∧ lo = 0)
def CRes (nn : Nat) (E : Int) (ts : List E6) (a : Option Addr) (lo : Nat) (w : World) : Prop := (E = 0 ∧ lo = nn ∧ CountsAt w a (cntsL nn ts)) ∨ (¬ E = 0 ∧ lo = 0)
theorem tlists_below {w w' : World} {a : Option Addr} {ps : List (List T5)} (h : ListsAt ToldsAt w a ps) (hb : Below w.heap.size w w') : ListsAt ToldsAt w' a ps :=
  ListsAt.below (Q := ToldsAt) (fun {w w' a l} hb h => ToldsAt.below h hb) h hb
theorem LRes.below {nn : Nat} {E : Int} {ts : List E6} {a : Option Addr} {lo : Nat} {w w' : World} (h : LRes nn E ts a lo w) (hb : Below w.heap.size w w') : LRes nn E ts a lo w' := h.imp (fun ⟨h1, h2, h3⟩ => ⟨h1, h2, tlists_below h3 hb⟩) id
theorem CRes.below {nn : Nat} {E : Int} {ts : List E6} {a : Option Addr} {lo : Nat} {w w' : World} (h : CRes nn E ts a lo w) (hb : Below w.heap.size w w') : CRes nn E ts a lo w' := h.imp (fun ⟨h1, h2, h3⟩ => ⟨h1, h2, CountsAt.below h3 hb⟩) id
theorem far_cell {W0 W1 : World} {l : Array Obj} {d d' b i : Nat} (hs : W1.heap.size = W0.heap.size) (hb : W0.heap.size ≤ b) : (W1.later l d').cell? ⟨b, i, none⟩ = (W0.later l d).cell? ⟨b, i, none⟩ := by
  apply World.cell?_of_block
  simp only [World.later, Array.getElem?_append]
  rw [if_neg (by omega), if_neg (by omega), hs]
theorem at_dst {P : Program} {ops : Array Oper} {rest : List Oper} {o : Oper} {a : Act} {w : World} {Q : Exit → Act → World → Prop} (dst : Nat) (hd : o.dst = some dst) (h : wpList P ops Q (o :: rest) a w) : wpList P ops Q (o :: rest) a w := h
/-- behind the append: the event's own cells, and the row, whatever the counts are -/
theorem append_far {W3 : World} {o : Obj} {l5 : Array Obj} {d5 : Nat} {e tE tA : TypeId} {sa : Option Addr} {m sc bx : Nat} {cs cs2 : List Value} {v' : Value} {w1 : World} {xn xk xa xv xu : Int} {xb : Bool} {K : Array Value}
    (h : ((W3.alloc o).later l5 d5).ownsRow (W3.heap.size + 1) e 5 (.slice sa m sc) m cs) (hbx : bx = W3.heap.size + 1 + l5.size)
    (hg : ((((W3.alloc o).later l5 d5).alloc (.cells #[.int .i64 xn, .int .i64 xk, .int .i64 xa, .int .u64 xv, .int .u64 xu, .bool xb] tE)).alloc (.cells K tA)).grownBy w1 (Value.slice sa m sc).ownBlock)
    (hown : w1.ownsRow (W3.heap.size + 1) e 5 v' (m + 1) cs2) :
    ∃ l6 d6, w1 = (W3.alloc o).later l6 d6 ∧ (∀ o' : Obj, ((W3.alloc o').later l6 d6).cell? ⟨bx, 1, none⟩ = some (.int .i64 xk)) ∧ (∀ o' : Obj, ((W3.alloc o').later l6 d6).cell? ⟨bx, 5, none⟩ = some (.bool xb))
      ∧ Hid (∀ o' : Obj, ((W3.alloc o').later l6 d6).ownsRow (W3.heap.size + 1) e 5 v' (m + 1) cs2) := by
  have hb : Below (W3.alloc o).heap.size (W3.alloc o) w1 := below_grown (by repeat (first | exact Below.refl _ _ | apply bs_later | apply bs_alloc | apply bs_drew | apply bs_drewN)) hg (fun g hg => by have := (h.lt g hg).1; simp; omega)
  obtain ⟨l6, d6, rfl⟩ := later_of hb
  have hne : (Value.slice sa m sc).ownBlock ≠ some bx := fun e => by have := (h.lt bx e).2; simp at this; omega
  have hat : ∀ (i : Nat) (v : Value), #[Value.int .i64 xn, .int .i64 xk, .int .i64 xa, .int .u64 xv, .int .u64 xu, .bool xb][i]? = some v → ((W3.alloc o).later l6 d6).cell? ⟨bx, i, none⟩ = some v := fun i v hv =>
    (hg.cell_far ⟨bx, i, none⟩ (by simp; omega) (fun e => hne e.symm)).trans (by rw [World.cell?_alloc_past _ _ _ (by simp; omega), World.cell?_alloc_at _ _ _ _ (by simp; omega)]; exact hv)
  have hs : ∀ o' : Obj, (W3.alloc o').heap.size = (W3.alloc o).heap.size := fun o' => by simp
  refine ⟨l6, d6, rfl, fun o' => (far_cell (hs o') (by simp; omega)).trans (hat 1 _ rfl), fun o' => (far_cell (hs o') (by simp; omega)).trans (hat 5 _ rfl), Lib.hid fun o' => own_swap hown (by simp) (hs o')⟩
def MidT (W3 : World) (o : Obj) (bx m : Nat) (xk : Int) (xb : Bool) (cs2 : List Value) (c22 : Value) (wx : World) : Prop :=
  ∃ l6 d6, wx = (W3.alloc o).later l6 d6 ∧ (∀ o' : Obj, ((W3.alloc o').later l6 d6).cell? ⟨bx, 1, none⟩ = some (.int .i64 xk)) ∧ (∀ o' : Obj, ((W3.alloc o').later l6 d6).cell? ⟨bx, 5, none⟩ = some (.bool xb))
    ∧ ∀ o' : Obj, ((W3.alloc o').later l6 d6).ownsRow (W3.heap.size + 1) 83 5 c22 (m + 1) cs2
theorem zero_lit : ∀ w, (Op.equalIn 10000 26 (.agg (memA zeroXs)) (.agg #[.int .u64 0, .int .u64 0, .int .u64 0, .int .u64 0, .int .u64 0, .int .u64 0, .int .u64 0, .int .u64 0, .int .u64 0, .int .u64 0, .int .u64 0, .int .u64 0, .int .u64 0, .int .u64 0, .int .u64 0, .int .u64 0, .int .u64 0, .int .u64 0, .int .u64 0, .int .u64 0, .int .u64 0, .int .u64 0, .int .u64 0, .int .u64 0, .int .u64 0, .int .u64 0, .int .u64 0, .int .u64 0, .int .u64 0, .int .u64 0, .int .u64 0, .int .u64 0, .int .u64 0, .int .u64 0, .int .u64 0, .int .u64 0, .int .u64 0, .int .u64 0, .int .u64 0, .int .u64 0, .int .u64 0, .int .u64 0, .int .u64 0, .int .u64 0, .int .u64 0, .int .u64 0, .int .u64 0, .int .u64 0, .int .u64 0, .int .u64 0, .int .u64 0, .int .u64 0, .int .u64 0, .int .u64 0, .int .u64 0, .int .u64 0, .int .u64 0, .int .u64 0, .int .u64 0, .int .u64 0, .int .u64 0, .int .u64 0, .int .u64 0, .int .u64 0])).run Try.prog w = .ok true w := by
  rw [zero_is]; exact run_same_mem zeroXs zeroXs_len zeroXs_wf
theorem cnt_wf (k : Nat) (ts : List E6) (h : ts.length ≤ 200) (j : Nat) : (Lit.int .i64 ((cntL k ts).nth j)).wf = true := WalkArith.wf_i64 (by have := cnt_bd k ts j; omega)
def Rel1 (xs : List Int) (ts : List E6) (B0 : Int) (W1 : World) (v i : Value) (wr : World) : Prop :=
  ∃ (k : Nat) (l : Array Obj) (d : Nat), k ≤ ts.length ∧ i = .int .i64 k ∧ v = .int .i64 (foldS ⟨B0, xs⟩ (ts.take k)).e ∧ wr = (W1.alloc (.cells (memA (foldS ⟨B0, xs⟩ (ts.take k)).m) 26)).later l d
def Rel2 (cn B1 : Int) (ts : List E6) (W2 : World) (v i : Value) (wr : World) : Prop :=
  ∃ (k : Nat) (l : Array Obj) (d : Nat), k ≤ ts.length ∧ i = .int .i64 k ∧ v = .int .i64 (scanT cn B1 (ts.take k)) ∧ wr = W2.later l d
def Rel3 (nn : Nat) (W2 : World) (i : Value) (wr : World) : Prop := ∃ (k : Nat) (l : Array Obj) (d : Nat), k ≤ nn ∧ i = .int .i64 k ∧ wr = W2.later l d
def Rel4 (K : Nat) (ts : List E6) (W3 : World) (v i : Value) (wr : World) : Prop :=
  ∃ (j : Nat) (l : Array Obj) (d m : Nat), j ≤ ts.length ∧ i = .int .i64 j ∧ wr = (W3.alloc (.cells #[.int .i64 (cntL K (ts.take j)).a, .int .i64 (cntL K (ts.take j)).b, .int .i64 (cntL K (ts.take j)).c, .int .i64 (cntL K (ts.take j)).d, .int .i64 (cntL K (ts.take j)).e] 52)).later l d
    ∧ m = (nodeT K (ts.take j)).length ∧ wr.ownsRow (W3.heap.size + 1) 83 5 v m (cellsT (nodeT K (ts.take j)))

set_option maxHeartbeats 40000000 in
set_option maxRecDepth 100000 in
theorem walk_any (xs : List Int) (hl : xs.length = 64) (wx : AllU xs) (cn cs cy cb : Int) (ts : List E6) (hts : ∀ x ∈ ts, x.Ok) (a : Option Addr) (n c : Nat) (w : World) (hm : n ≤ maxLen) (hd : ts.length = n) (h : EventsAt w a ts) :
    Calls Try.prog 10 #[.agg #[.int .i64 cn, .int .i64 cs, .int .i64 cy, .int .i64 cb], .agg (memA xs), .slice a n c] w (Ret (.bool true) w) := by
  obtain ⟨E1, hE1⟩ : ∃ E1, E1 = tallyE cn cs cy cb ts := ⟨_, rfl⟩
  obtain ⟨E3, hE3⟩ : ∃ E3, E3 = evE 8 ts := ⟨_, rfl⟩
  obtain ⟨nn, hnn⟩ : ∃ nn, nn = cn.toNat := ⟨_, rfl⟩
  have HL : Hid (∀ w, EventsAt w a ts → Calls Try.prog 25 #[.agg #[.int .i64 cn, .int .i64 cs, .int .i64 cy, .int .i64 cb], .slice a n c] w fun e w' => ∃ ao lo co, e = .returned (.tuple #[.slice ao lo co, .int .i64 E1]) ∧ LRes nn E1 ts ao lo w' ∧ Below w.heap.size w w') := Lib.hid fun w h => (logs_any cn cs cy cb ts a n c w hd hm h).mono fun e w' ⟨hb, h⟩ => by
    rw [← hE1, ← hnn] at h
    rcases h with ⟨h0, ao, co, h1, _, _, _, h2⟩ | ⟨h0, h1⟩
    · exact ⟨ao, _, co, by rw [h1, h0], .inl ⟨h0, rfl, h2⟩, hb⟩
    · exact ⟨none, 0, 0, h1, .inr ⟨h0, rfl⟩, hb⟩
  have HC : Hid (∀ w, EventsAt w a ts → Calls Try.prog 24 #[.agg #[.int .i64 cn, .int .i64 cs, .int .i64 cy, .int .i64 cb], .slice a n c] w fun e w' => ∃ ao lo co, e = .returned (.tuple #[.slice ao lo co, .int .i64 E1]) ∧ CRes nn E1 ts ao lo w' ∧ Below w.heap.size w w') := Lib.hid fun w h => (counts_any cn cs cy cb ts a n c w hd hm h).mono fun e w' ⟨hb, h⟩ => by
    rw [← hE1, ← hnn] at h
    rcases h with ⟨h0, ao, co, h1, _, _, _, h2⟩ | ⟨h0, h1⟩
    · exact ⟨ao, _, co, by rw [h1, h0], .inl ⟨h0, rfl, h2⟩, hb⟩
    · exact ⟨none, 0, 0, h1, .inr ⟨h0, rfl⟩, hb⟩
  obtain ⟨mr, hmr0, hmr1, hmrl, hmrw, PM⟩ : ∃ mr : List Int, (E3 = 0 → mr = memE xs ts) ∧ (¬ E3 = 0 → mr = zeroXs) ∧ mr.length = 64 ∧ AllU mr ∧ ∀ w, EventsAt w a ts → Calls Try.prog 51 #[.agg (memA xs), .slice a n c] w (Ret (.tuple #[.agg (memA mr), .int .i64 E3]) w) := by
    by_cases h0 : E3 = 0
    · refine ⟨memE xs ts, fun _ => rfl, fun h => absurd h0 h, by rw [memE_len, hl], ?_, fun w h => ?_⟩
      · rw [← (foldS_law xs ts).2 (by rw [← hE3]; exact h0)]; exact foldS_wf wx ts hts
      · rw [h0]; exact memory_ok xs hl ts a n c w hm hd h (by rw [← hE3]; exact h0)
    · refine ⟨zeroXs, fun h => absurd h h0, fun _ => rfl, zeroXs_len, zeroXs_wf, fun w h => ?_⟩
      rw [hE3]; exact memory_bad xs hl ts a n c w hm hd h (by rw [← hE3]; exact h0)
  have HM := Lib.hid PM
  have HMR0 := Lib.hid hmr0
  have HMR1 := Lib.hid hmr1
  have HMRW := Lib.hid hmrw
  have HMRL := Lib.hid hmrl
  have HX := Lib.hid hl
  have HWX := Lib.hid wx
  have HTS := Lib.hid hts
  have HD := Lib.hid hd
  have HT := Lib.hid h
  have HE1 := Lib.hid hE1
  have HE3 := Lib.hid hE3
  have HNN := Lib.hid hnn
  have s1 : (memA xs).size = 64 := by rw [size_memA, hl]
  have s2 : (memA mr).size = 64 := by rw [size_memA, hmrl]
  obtain ⟨B0, hB0⟩ : ∃ B0 : Int, B0 = if 200 < n then 2 else 0 := ⟨_, rfl⟩
  have HB0 := Lib.hid hB0
  clear PM hmr0 hmr1 hmrw hmrl hl wx hts hd h hE1 hE3 hnn hB0
  unfold maxLen at hm
  go_enter Try.func10, Try.ntmps10
  go_upto_if 46 with (first
    | (refine wpList_load_r rfl 26 _ rfl _ rfl 64 _ Try.underlying26 rfl (by kernel_rfl) (by (simp [go_sem, s1, s2]; done)) ?_; intro C hC; simp [go_sem] at hC; subst hC)
    | (refine wpList_store_r rfl 26 _ _ rfl _ rfl _ rfl 64 (by kernel_rfl) (by (simp [go_sem, s1, s2]; done)) (by (simp [s1, s2]; done)) (memA_one _) ?_; intro W hW; simp [go_sem] at hW; subst hW)
    | (go_at_call 25; refine (HL.out _ (EventsAt.below HT.out (by repeat (first | exact Below.refl _ _ | apply bs_later | apply bs_alloc | apply bs_drew | apply bs_drewN)))).mono ?_; rintro e w1 ⟨ao, lo, co, rfl, hlr, hb1⟩; obtain ⟨l1, d1, rfl⟩ := later_of hb1; clear hb1; have HLR := Lib.hid hlr; clear hlr)
    | (go_at_call 24; refine (HC.out _ (EventsAt.below HT.out (by repeat (first | exact Below.refl _ _ | apply bs_later | apply bs_alloc | apply bs_drew | apply bs_drewN)))).mono ?_; rintro e w1 ⟨aa, la, ca, rfl, hcr, hb1⟩; obtain ⟨l2, d2, rfl⟩ := later_of hb1; clear hb1; have HCR := Lib.hid hcr; clear hcr)
    | (go_at_call 51; refine (HM.out _ (EventsAt.below HT.out (by repeat (first | exact Below.refl _ _ | apply bs_later | apply bs_alloc | apply bs_drew | apply bs_drewN)))).mono ?_; rintro e w1 ⟨rfl, hb1⟩; obtain ⟨l3, d3, rfl⟩ := later_of hb1; clear hb1))
  have HB1 : Hid (Below w.heap.size w ((((((w.alloc (.cells #[.int .i64 cn, .int .i64 cs, .int .i64 cy, .int .i64 cb] 42)).alloc (.cells (memA xs) 26)).later l1 d1).later l2 d2).later l3 d3).alloc (.cells (memA mr) 26))) := Lib.hid (by repeat (first | exact Below.refl _ _ | apply bs_later | apply bs_alloc | apply bs_drew | apply bs_drewN))
  have HT1 := Lib.hid (EventsAt.below HT.out HB1.out)
  have HLR1 := Lib.hid (LRes.below HLR.out (show Below _ _ ((((((w.alloc (.cells #[.int .i64 cn, .int .i64 cs, .int .i64 cy, .int .i64 cb] 42)).alloc (.cells (memA xs) 26)).later l1 d1).later l2 d2).later l3 d3).alloc (.cells (memA mr) 26)) from (by repeat (first | exact Below.refl _ _ | apply bs_later | apply bs_alloc | apply bs_drew | apply bs_drewN))))
  have HCR1 := Lib.hid (CRes.below HCR.out (show Below _ _ ((((((w.alloc (.cells #[.int .i64 cn, .int .i64 cs, .int .i64 cy, .int .i64 cb] 42)).alloc (.cells (memA xs) 26)).later l1 d1).later l2 d2).later l3 d3).alloc (.cells (memA mr) 26)) from (by repeat (first | exact Below.refl _ _ | apply bs_later | apply bs_alloc | apply bs_drew | apply bs_drewN))))
  have c0 : ((((((w.alloc (.cells #[.int .i64 cn, .int .i64 cs, .int .i64 cy, .int .i64 cb] 42)).alloc (.cells (memA xs) 26)).later l1 d1).later l2 d2).later l3 d3).alloc (.cells (memA mr) 26)).cell? ⟨w.heap.size, 0, none⟩ = some (.int .i64 cn) := by go_simp
  have c1 : ((((((w.alloc (.cells #[.int .i64 cn, .int .i64 cs, .int .i64 cy, .int .i64 cb] 42)).alloc (.cells (memA xs) 26)).later l1 d1).later l2 d2).later l3 d3).alloc (.cells (memA mr) 26)).cell? ⟨w.heap.size, 1, none⟩ = some (.int .i64 cs) := by go_simp
  have c2 : ((((((w.alloc (.cells #[.int .i64 cn, .int .i64 cs, .int .i64 cy, .int .i64 cb] 42)).alloc (.cells (memA xs) 26)).later l1 d1).later l2 d2).later l3 d3).alloc (.cells (memA mr) 26)).cell? ⟨w.heap.size, 2, none⟩ = some (.int .i64 cy) := by go_simp
  have c3 : ((((((w.alloc (.cells #[.int .i64 cn, .int .i64 cs, .int .i64 cy, .int .i64 cb] 42)).alloc (.cells (memA xs) 26)).later l1 d1).later l2 d2).later l3 d3).alloc (.cells (memA mr) 26)).cell? ⟨w.heap.size, 3, none⟩ = some (.int .i64 cb) := by go_simp
  have rM : okRow ((((((w.alloc (.cells #[.int .i64 cn, .int .i64 cs, .int .i64 cy, .int .i64 cb] 42)).alloc (.cells (memA xs) 26)).later l1 d1).later l2 d2).later l3 d3).alloc (.cells (memA mr) 26)) (w.heap.size + 1) 64 := by simp [go_sem, s1]
  have qM : rowOf ((((((w.alloc (.cells #[.int .i64 cn, .int .i64 cs, .int .i64 cy, .int .i64 cb] 42)).alloc (.cells (memA xs) 26)).later l1 d1).later l2 d2).later l3 d3).alloc (.cells (memA mr) 26)) (w.heap.size + 1) = memA xs := by simp [go_sem]
  have rN : okRow ((((((w.alloc (.cells #[.int .i64 cn, .int .i64 cs, .int .i64 cy, .int .i64 cb] 42)).alloc (.cells (memA xs) 26)).later l1 d1).later l2 d2).later l3 d3).alloc (.cells (memA mr) 26)) (w.heap.size + 1 + 1 + l1.size + l2.size + l3.size) 64 := by simp [go_sem, s2]
  have qN : rowOf ((((((w.alloc (.cells #[.int .i64 cn, .int .i64 cs, .int .i64 cy, .int .i64 cb] 42)).alloc (.cells (memA xs) 26)).later l1 d1).later l2 d2).later l3 d3).alloc (.cells (memA mr) 26)) (w.heap.size + 1 + 1 + l1.size + l2.size + l3.size) = memA mr := by simp [go_sem]
  generalize (((((w.alloc (.cells #[.int .i64 cn, .int .i64 cs, .int .i64 cy, .int .i64 cb] 42)).alloc (.cells (memA xs) 26)).later l1 d1).later l2 d2).later l3 d3).alloc (.cells (memA mr) 26) = W1 at *
  generalize w.heap.size + 1 + 1 + l1.size + l2.size + l3.size = gN at *
  have ic : inB W1 w.heap.size := table.lt_of_cell c0
  have iM : inB W1 (w.heap.size + 1) := okRow_lt rM
  have iN : inB W1 gN := okRow_lt rN
  clear HL HC HM HLR HCR HT
  go_cut [13, 46] (fun c13 c46 wx => c13 = .int .i64 B0 ∧ wx = W1)
  case first => as_aux_lemma =>
    by_cases h2 : 200 < n
    · have h3 : (200 : Int) < n := by omega
      have HV : Hid (B0 = 2) := Lib.hid (by rw [HB0.out, if_pos h2])
      go_wp2_with (fail)
      go_meet
      case rel => exact ⟨by rw [HV.out], rfl⟩
    · have h3 : ¬ (200 : Int) < n := by omega
      have HV : Hid (B0 = 0) := Lib.hid (by rw [HB0.out, if_neg h2])
      go_wp2_with (fail)
      go_meet
      case rel => exact ⟨by rw [HV.out], rfl⟩
  case rest =>
    obtain ⟨rfl, hwc⟩ := hcut
    have hwc := hwc.symm; subst hwc
    go_wp2_with (first
      | (refine wpList_load_r rfl 26 _ rfl _ rfl 64 _ Try.underlying26 rfl (by kernel_rfl) (by (simp [go_sem, rM, qM, s1]; done)) ?_; intro C hC; simp [go_sem, qM] at hC; subst hC)
      | (refine wpList_store_r rfl 26 _ _ rfl _ rfl _ rfl 64 (by kernel_rfl) (by (simp [go_sem, s1]; done)) (by (simp [s1]; done)) (memA_one _) ?_; intro W hW; simp [go_sem] at hW; subst hW))
    go_loopw [15, 51] (Rel1 xs ts B0 W1) (fun _ i _ => n - (intOf i).toNat)
    case atStart => exact ⟨0, #[], _, by omega, rfl, rfl, later_zero _⟩
    case round =>
      obtain ⟨k, l, d, hk, rfl, rfl, rfl⟩ := hrel
      have hml : (foldS ⟨B0, xs⟩ (ts.take k)).m.length = 64 := by rw [foldS_len]; exact HX.out
      have t1 : (memA (foldS ⟨B0, xs⟩ (ts.take k)).m).size = 64 := by rw [size_memA, hml]
      by_cases hlt : k < n
      · as_aux_lemma =>
        -- L1 begin
        obtain ⟨x, hx⟩ := get_some (xs := ts) (k := k) (by rw [HD.out]; exact hlt)
        obtain ⟨b, off, rfl⟩ := EventsAt.form HT1.out hx
        obtain ⟨e0, e1, e2, e3, e4, e5⟩ := EventsAt.at HT1.out hx
        have hin : inB W1 b := table.lt_of_cell e0
        have HJ : Hid (k + 1 ≤ ts.length) := Lib.hid (by rw [HD.out]; exact hlt)
        have HES : Hid (foldS ⟨B0, xs⟩ (ts.take (k + 1)) = (foldS ⟨B0, xs⟩ (ts.take k)).next x) := Lib.hid (by rw [play.take_snoc hx, foldS_snoc])
        clear hx hk
        generalize foldS ⟨B0, xs⟩ (ts.take k) = s at *
        obtain ⟨se, sm⟩ := s
        obtain ⟨⟨xn, xk, xa, xv⟩, xu, xb⟩ := x
        simp only at e0 e1 e2 e3 e4 e5 hml t1
        have PR := fun w => refDeed.deedFault_any xn xk xa xv w
        by_cases hse : se = 0
        · subst hse
          by_cases hr : rightE xn xk xa xv = 0
          · rw [hr] at PR
            have HR := Lib.hid PR
            have PL := fun w => plain_ok sm hml xn xk xa xv w (right_pos hr).2.1 (right_pos hr).2.2.1.1 (right_pos hr).2.2.1.2
            have t2 : (memA (plainM sm xk xa xv)).size = 64 := by rw [size_memA, plainM_len, hml]
            have HN : Hid (S2.next ⟨0, sm⟩ ⟨⟨xn, xk, xa, xv⟩, xu, xb⟩ = ⟨0, plainM sm xk xa xv⟩) := Lib.hid (by unfold S2.next rgt; rw [if_pos rfl, if_pos hr])
            generalize plainM sm xk xa xv = zs at *
            generalize plainV sm xk xa = z at *
            have HPL := Lib.hid PL
            clear PR PL hr hml
            go_wp2_with (first
              | (refine wpList_load_r rfl 26 _ rfl _ rfl 64 _ Try.underlying26 rfl (by kernel_rfl) (by (simp [go_sem, t1, t2]; done)) ?_; intro C hC; simp [go_sem] at hC; subst hC)
              | (refine wpList_store_r rfl 26 _ _ rfl _ rfl _ rfl 64 (by kernel_rfl) (by (simp [go_sem, t1, t2]; done)) (by (simp [t1, t2]; done)) (memA_one _) ?_; intro W hW; simp [go_sem] at hW; subst hW)
              | (go_at_call 28; refine (HR.out _).mono ?_; rintro e w1 ⟨rfl, hb1⟩; obtain ⟨l4, d4, rfl⟩ := later_of hb1; clear hb1)
              | (go_at_call 30; refine (HPL.out _).mono ?_; rintro e w1 ⟨rfl, hb1⟩; obtain ⟨l5, d5, rfl⟩ := later_of hb1; clear hb1))
            exact ⟨⟨k + 1, _, _, HJ.out, by go_num, by rw [HES.out, HN.out], by rw [HES.out, HN.out, later_alloc, later_later, later_later]⟩, by simp [intOf]; omega⟩
          · have HR := Lib.hid PR
            have HN : Hid (S2.next ⟨0, sm⟩ ⟨⟨xn, xk, xa, xv⟩, xu, xb⟩ = ⟨rightE xn xk xa xv, sm⟩) := Lib.hid (by unfold S2.next rgt; rw [if_pos rfl, if_neg hr])
            generalize rightE xn xk xa xv = R at *
            have hr1 : (R == 0) = false := by simpa using hr
            clear PR hr hml
            go_wp2_with (go_at_call 28; refine (HR.out _).mono ?_; rintro e w1 ⟨rfl, hb1⟩; obtain ⟨l4, d4, rfl⟩ := later_of hb1; clear hb1)
            exact ⟨⟨k + 1, _, _, HJ.out, by go_num, by rw [HES.out, HN.out], by rw [HES.out, HN.out, later_alloc, later_later]⟩, by simp [intOf]; omega⟩
        · have hs1 : (se == 0) = false := by simpa using hse
          have HN : Hid (S2.next ⟨se, sm⟩ ⟨⟨xn, xk, xa, xv⟩, xu, xb⟩ = ⟨se, sm⟩) := Lib.hid (if_neg hse)
          clear PR hse hml
          go_wp2_with (fail)
          exact ⟨⟨k + 1, _, _, HJ.out, by go_num, by rw [HES.out, HN.out], by rw [HES.out, HN.out, later_alloc]⟩, by simp [intOf]; omega⟩
        -- L1 end
      · obtain rfl : k = n := by have := HD.out; omega
        have htk : ts.take k = ts := List.take_of_length_le (by rw [HD.out]; exact Nat.le_refl _)
        have hlaw := foldS_law xs ts
        rw [HD.out, ← HB0.out, ← HE3.out] at hlaw
        rw [htk] at t1 hml ⊢
        rw [hlaw.1]
        have HMF : Hid (E3 = 0 → (foldS ⟨B0, xs⟩ ts).m = mr) := Lib.hid fun h => by rw [hlaw.2 h, HMR0.out h]
        generalize (foldS ⟨B0, xs⟩ ts).m = mf at *
        have HB2 : Hid (Below W1.heap.size W1 ((W1.alloc (.cells (memA mf) 26)).later l d)) := Lib.hid (by repeat (first | exact Below.refl _ _ | apply bs_later | apply bs_alloc | apply bs_drew | apply bs_drewN))
        clear htk hlaw hml hk hlt
        go_upto_region 17 with (fail)
        go_cut [94] (fun c94 wx => c94 = .bool false ∧ wx = (W1.alloc (.cells (memA mf) 26)).later l d)
        case first => as_aux_lemma =>
          -- G begin
          by_cases h0 : E3 = 0
          · have hmf := HMF.out h0
            subst hmf
            subst h0
            have hq := run_same_mem mf HMRL.out HMRW.out
            go_wp2_with (first
              | ((with_reducible refine at_dst 86 rfl ?_); (try simp only [Act.put, List.getElem_toArray, List.getElem_cons_succ, List.getElem_cons_zero, List.setIfInBounds_toArray, List.set_cons_zero, List.set_cons_succ]); refine wpList_load_w ?_ 26 _ rfl _ rfl 64 _ Try.underlying26 rfl (by kernel_rfl) (by (simp [go_sem, rN, iN, qN, s1, s2, t1]; done)) ?_; (focus rfl); intro C hC; simp [go_sem, iN, qN] at hC; subst hC)
              | ((with_reducible refine at_dst 87 rfl ?_); (try simp only [Act.put, List.getElem_toArray, List.getElem_cons_succ, List.getElem_cons_zero, List.setIfInBounds_toArray, List.set_cons_zero, List.set_cons_succ]); refine wpList_load_w ?_ 26 _ rfl _ rfl 64 _ Try.underlying26 rfl (by kernel_rfl) (by (simp [go_sem, rN, iN, qN, s1, s2, t1]; done)) ?_; (focus rfl); intro C hC; simp [go_sem, iN, qN] at hC; subst hC))
            go_meet
            case rel => exact ⟨rfl, rfl⟩
          · have hz := zero_lit
            have hmz := HMR1.out h0
            subst hmz
            have h1 : (E3 != 0) = true := by simpa using h0
            have h2 : (E3 == 0) = false := by simpa using h0
            have h3 : (E3 != E3) = false := by simp
            clear h0
            go_wp2_with (first
              | ((with_reducible refine at_dst 73 rfl ?_); (try simp only [Act.put, List.getElem_toArray, List.getElem_cons_succ, List.getElem_cons_zero, List.setIfInBounds_toArray, List.set_cons_zero, List.set_cons_succ]); refine wpList_load_w ?_ 26 _ rfl _ rfl 64 _ Try.underlying26 rfl (by kernel_rfl) (by (simp [go_sem, rN, iN, qN, s1, s2, t1]; done)) ?_; (focus rfl); intro C hC; simp [go_sem, iN, qN] at hC; subst hC))
            go_meet
            case rel => exact ⟨rfl, rfl⟩
          -- G end
        case rest =>
          obtain ⟨rfl, hwc⟩ := hcut
          subst hwc
          -- D begin
          have HBW : Hid (Below w.heap.size w ((W1.alloc (.cells (memA mf) 26)).later l d)) := Lib.hid (below_trans HB1.out HB2.out)
          have HT2 := Lib.hid (EventsAt.below HT1.out HB2.out)
          have HLR2 := Lib.hid (LRes.below HLR1.out HB2.out)
          have HCR2 := Lib.hid (CRes.below HCR1.out HB2.out)
          have g0 : ((W1.alloc (.cells (memA mf) 26)).later l d).cell? ⟨w.heap.size, 0, none⟩ = some (.int .i64 cn) := by go_simp
          have g1 : ((W1.alloc (.cells (memA mf) 26)).later l d).cell? ⟨w.heap.size, 1, none⟩ = some (.int .i64 cs) := by go_simp
          have g2 : ((W1.alloc (.cells (memA mf) 26)).later l d).cell? ⟨w.heap.size, 2, none⟩ = some (.int .i64 cy) := by go_simp
          have g3 : ((W1.alloc (.cells (memA mf) 26)).later l d).cell? ⟨w.heap.size, 3, none⟩ = some (.int .i64 cb) := by go_simp
          clear c0 c1 c2 c3 rM qM rN qN ic iM iN HMF HMR0 HMR1 HMRW HMRL HT1 HLR1 HCR1 HB1 HB2
          generalize (W1.alloc (.cells (memA mf) 26)).later l d = W2 at *
          have ic : inB W2 w.heap.size := table.lt_of_cell g0
          have HCF := Lib.hid (fun w => refCfg.configFault_any cn cs cy cb w)
          have hscan := scanT_law cn cs cy cb ts
          rw [HD.out, ← HB0.out, ← HE1.out] at hscan
          have hok : E1 = 0 → (nn : Int) = cn ∧ nn ≤ 8 ∧ ∀ (i : Nat) (x : E6), ts[i]? = some x → rightE x.d.n x.d.k x.d.a x.d.v = 0 ∧ x.d.n < cn := fun h => by
            obtain ⟨hc, he⟩ := tallyE_ok (HE1.out ▸ h)
            have h2 := hc.1
            have h3 := hc.2.1
            have := HNN.out
            exact ⟨by omega, by omega, (evE_ok he).2⟩
          have hk2 : E1 = 0 → k ≤ 200 := fun h => by
            obtain ⟨hc, he⟩ := tallyE_ok (HE1.out ▸ h)
            have := (evE_ok he).1
            have := HD.out
            omega
          have HOK := Lib.hid hok
          have HK2 := Lib.hid hk2
          generalize cfgE cn cs cy cb = C0 at *
          obtain ⟨B1, hB1⟩ : ∃ B1 : Int, B1 = if C0 = 0 then B0 else C0 := ⟨_, rfl⟩
          rw [← hB1] at hscan
          have HB1 := Lib.hid hB1
          have HSC := Lib.hid hscan
          clear hok hk2 hB1 hscan
          go_upto_if 98 with (go_at_call 47; refine (HCF.out _).mono ?_; rintro e w1 ⟨rfl, hb1⟩; obtain ⟨l6, d6, rfl⟩ := later_of hb1; clear hb1)
          go_cut [13, 98] (fun c13 c98 wx => c13 = .int .i64 B1 ∧ ∃ l d, wx = W2.later l d)
          case first => as_aux_lemma =>
            by_cases h0 : C0 = 0
            · subst h0
              have HV : Hid (B1 = B0) := Lib.hid (by rw [HB1.out, if_pos rfl])
              go_wp2_with (fail)
              go_meet
              case rel => exact ⟨by rw [HV.out], _, _, rfl⟩
            · have h1 : (C0 != 0) = true := by simpa using h0
              have HV : Hid (B1 = C0) := Lib.hid (by rw [HB1.out, if_neg h0])
              clear h0
              go_wp2_with (fail)
              go_meet
              case rel => exact ⟨by rw [HV.out], _, _, rfl⟩
          case rest =>
            obtain ⟨rfl, l, d, hwc⟩ := hcut
            subst hwc
            go_wp2_with (fail)
            go_loopw [13, 102] (Rel2 cn B1 ts W2) (fun _ i _ => k - (intOf i).toNat)
            case atStart => exact ⟨0, _, _, Nat.zero_le _, rfl, by rw [List.take_zero]; show _ = Value.int .i64 (if B1 = 0 then 0 else B1); by_cases h : B1 = 0 <;> simp [h], rfl⟩
            case round =>
              obtain ⟨j, l, d, hj, rfl, rfl, rfl⟩ := hrel
              by_cases hlt : j < k
              · as_aux_lemma =>
                -- L2 begin
                obtain ⟨x, hx⟩ := get_some (xs := ts) (k := j) (by rw [HD.out]; exact hlt)
                obtain ⟨b, off, rfl⟩ := EventsAt.form HT2.out hx
                obtain ⟨e0, e1, e2, e3, e4, e5⟩ := EventsAt.at HT2.out hx
                have hin3 : inB W2 b := table.lt_of_cell e0
                have HJ : Hid (j + 1 ≤ ts.length) := Lib.hid (by rw [HD.out]; exact hlt)
                have HSS : Hid (scanT cn B1 (ts.take (j + 1)) = if scanT cn B1 (ts.take j) = 0 then splitP cn 0 x.d else scanT cn B1 (ts.take j)) := Lib.hid (by rw [play.take_snoc hx]; exact scanT_snoc cn B1 (ts.take j) x)
                generalize scanT cn B1 (ts.take j) = S at *
                obtain ⟨⟨xn, xk, xa, xv⟩, xu, xb⟩ := x
                simp only at e0 e1 e2 e3 e4 e5
                clear hx hj
                by_cases hS : S = 0
                · subst hS
                  have PR := fun w => refDeed.deedFault_any xn xk xa xv w
                  by_cases hr : rightE xn xk xa xv = 0
                  · rw [hr] at PR
                    have HR := Lib.hid PR
                    by_cases hn : cn ≤ xn
                    · have HV : Hid (scanT cn B1 (ts.take (j + 1)) = 4) := Lib.hid (by rw [HSS.out, if_pos rfl]; unfold splitP; rw [if_pos hr, if_pos hn])
                      clear PR hr
                      go_wp2_with (go_at_call 28; refine (HR.out _).mono ?_; rintro e w1 ⟨rfl, hb1⟩; obtain ⟨l4, d4, rfl⟩ := later_of hb1; clear hb1)
                      exact ⟨⟨j + 1, _, _, HJ.out, by go_num, by rw [HV.out], later_al _ _ _ _ _ _⟩, by simp [intOf]; omega⟩
                    · have HV : Hid (scanT cn B1 (ts.take (j + 1)) = 0) := Lib.hid (by rw [HSS.out, if_pos rfl]; unfold splitP; rw [if_pos hr, if_neg hn])
                      clear PR hr
                      go_wp2_with (go_at_call 28; refine (HR.out _).mono ?_; rintro e w1 ⟨rfl, hb1⟩; obtain ⟨l4, d4, rfl⟩ := later_of hb1; clear hb1)
                      exact ⟨⟨j + 1, _, _, HJ.out, by go_num, by rw [HV.out], later_al _ _ _ _ _ _⟩, by simp [intOf]; omega⟩
                  · have HR := Lib.hid PR
                    have HV : Hid (scanT cn B1 (ts.take (j + 1)) = rightE xn xk xa xv) := Lib.hid (by rw [HSS.out, if_pos rfl]; exact if_neg hr)
                    generalize rightE xn xk xa xv = R at *
                    have hr1 : (R == 0) = false := by simpa using hr
                    clear PR hr
                    go_wp2_with (go_at_call 28; refine (HR.out _).mono ?_; rintro e w1 ⟨rfl, hb1⟩; obtain ⟨l4, d4, rfl⟩ := later_of hb1; clear hb1)
                    exact ⟨⟨j + 1, _, _, HJ.out, by go_num, by rw [HV.out], later_al _ _ _ _ _ _⟩, by simp [intOf]; omega⟩
                · have HV : Hid (scanT cn B1 (ts.take (j + 1)) = S) := Lib.hid (by rw [HSS.out, if_neg hS])
                  have hS1 : (S == 0) = false := by simpa using hS
                  clear hS HSS
                  go_wp2_with (fail)
                  exact ⟨⟨j + 1, _, _, HJ.out, by go_num, by rw [HV.out], later_alloc _ _ _ _⟩, by simp [intOf]; omega⟩
                -- L2 end
              · obtain rfl : j = k := by have := HD.out; omega
                have hsc : scanT cn B1 (ts.take j) = E1 := by rw [List.take_of_length_le (by rw [HD.out]; exact Nat.le_refl _), HSC.out]
                rw [hsc]
                clear hsc hlt hj
                have hlr := HLR2.out
                have hcr := HCR2.out
                by_cases h0 : E1 = 0
                · obtain ⟨hcn, hn8, hev⟩ := HOK.out h0
                  have hj200 := HK2.out h0
                  rcases hlr with ⟨_, hlo, hll⟩ | ⟨h, _⟩
                  case inr => exact absurd h0 h
                  rcases hcr with ⟨_, hla, hcc⟩ | ⟨h, _⟩
                  case inr => exact absurd h0 h
                  subst h0
                  subst hcn
                  subst hlo
                  subst hla
                  have HLL := Lib.hid hll
                  have HCC := Lib.hid hcc
                  have HEV := Lib.hid hev
                  have hbn : ((la : Int) != (la : Int)) = false := by simp
                  clear hll hcc hev HLR2 HCR2
                  -- F begin
                  go_wp2_with (fail)
                  go_loopw [164] (Rel3 la W2) (fun i _ => la - (intOf i).toNat)
                  case atStart => exact ⟨0, _, _, Nat.zero_le _, rfl, rfl⟩
                  case round =>
                    obtain ⟨k, l, d, hk, rfl, rfl⟩ := hrel
                    by_cases hlt : k < la
                    · go_wp2_with (fail)
                      obtain ⟨W3, hW3⟩ : ∃ W3, W3 = W2.later l d := ⟨_, rfl⟩
                      have hb3 : Below W2.heap.size W2 W3 := by rw [hW3]; exact (by repeat (first | exact Below.refl _ _ | apply bs_later | apply bs_alloc | apply bs_drew | apply bs_drewN))
                      have HT3 := Lib.hid (EventsAt.below HT2.out hb3)
                      have HLL3 := Lib.hid (tlists_below HLL.out hb3)
                      have HCC3 := Lib.hid (CountsAt.below HCC.out hb3)
                      have HW3 := Lib.hid hW3
                      have hz3 : W2.heap.size + l.size = W3.heap.size := by rw [hW3, size_later]
                      rw [← hW3, hz3]
                      obtain ⟨i4, ji, jz0, jz1, jz2⟩ := info_parts info_told
                      clear hb3 hW3 hk hz3
                      go_loopw [22, 169] (Rel4 k ts W3) (fun _ i _ => j - (intOf i).toNat)
                      case atStart => exact ⟨0, #[], _, 0, Nat.zero_le _, rfl, by rw [List.take_zero]; exact later_zero _, rfl, World.ownsRow_nil _ _ _ _⟩
                      case round =>
                        obtain ⟨i, l5, d5, m, hi, rfl, rfl, hmm, hown⟩ := hrel
                        have hm200 : m ≤ 200 := by
                          rw [hmm]
                          have h1 := nodeT_len k (ts.take i)
                          have h2 : (ts.take i).length ≤ ts.length := by rw [List.length_take]; omega
                          have := HD.out
                          omega
                        have htl200 : (ts.take i).length ≤ 200 := by
                          have h2 : (ts.take i).length ≤ ts.length := by rw [List.length_take]; omega
                          have := HD.out
                          omega
                        obtain ⟨sa, sc, hv⟩ := own_form hown
                        subst hv
                        by_cases hlt4 : i < j
                        · as_aux_lemma =>
                          -- L4 begin
                          obtain ⟨x, hx⟩ := get_some (xs := ts) (k := i) (by rw [HD.out]; exact hlt4)
                          obtain ⟨b, off, rfl⟩ := EventsAt.form HT3.out hx
                          obtain ⟨e0, e1, e2, e3, e4, e5⟩ := EventsAt.at HT3.out hx
                          have hin3 : inB W3 b := table.lt_of_cell e0
                          have HJ : Hid (i + 1 ≤ ts.length) := Lib.hid (by rw [HD.out]; exact hlt4)
                          have hev := HEV.out i x hx
                          have hk14 := (right_pos hev.1).2.1
                          have HNT := Lib.hid (show nodeT k (ts.take (i + 1)) = nodeT k (ts.take i) ++ if x.d.n = (k : Int) then [x.told] else [] by rw [play.take_snoc hx]; exact nodeT_snoc k (ts.take i) x)
                          have HCN := Lib.hid (show cntL k (ts.take (i + 1)) = if x.d.n = (k : Int) then (cntL k (ts.take i)).on x else cntL k (ts.take i) by rw [play.take_snoc hx]; exact cntL_snoc k (ts.take i) x hk14)
                          have q0 := cnt_bd k (ts.take i) 0
                          have q1 := cnt_bd k (ts.take i) 1
                          have q2 := cnt_bd k (ts.take i) 2
                          have q3 := cnt_bd k (ts.take i) 3
                          have q4 := cnt_bd k (ts.take i) 4
                          simp only [C5.nth] at q0 q1 q2 q3 q4
                          have HMM := Lib.hid hmm
                          have HO := Lib.hid hown
                          generalize cntL k (ts.take i) = C at *
                          obtain ⟨ca, cb2, cc, cd, ce⟩ := C
                          obtain ⟨⟨xn, xk, xa, xv⟩, xu, xb⟩ := x
                          simp only at e0 e1 e2 e3 e4 e5 q0 q1 q2 q3 q4 hk14 HNT HCN
                          have q0' : 0 ≤ ca ∧ ca ≤ 200 := by omega
                          have q1' : 0 ≤ cb2 ∧ cb2 ≤ 200 := by omega
                          have q2' : 0 ≤ cc ∧ cc ≤ 200 := by omega
                          have q3' : 0 ≤ cd ∧ cd ≤ 200 := by omega
                          have q4' : 0 ≤ ce ∧ ce ≤ 200 := by omega
                          clear hx hi hmm hown hev q0 q1 q2 q3 q4 htl200
                          by_cases hxn : xn = (k : Int)
                          · have hxb : (xn != (k : Int)) = false := by simpa using hxn
                            rw [if_pos hxn] at HNT HCN
                            clear hxn
                            go_upto_region 43 with (fail)
                            go_cut [22] (fun c22 wx => MidT W3 (.cells #[.int .i64 ca, .int .i64 cb2, .int .i64 cc, .int .i64 cd, .int .i64 ce] 52) (W3.heap.size + 1 + l5.size) m xk xb (cellsT (nodeT k (ts.take i)) ++ [.int .i64 xn, .int .i64 xk, .int .i64 xa, .int .u64 xv, .int .u64 xu]) c22 wx)
                            case first => as_aux_lemma =>
                              refine wp_region_lit ?_
                              go_wp2_with (at_builtin; refine wpList_append_own _ rfl _ _ 53 rfl (W3.heap.size + 1) 83 i4 _ 5 40 Try.underlying53 ji jz0 jz1 jz2 rfl (by decide) _ _ _ rfl ((HO.out.alloc _).alloc _) ⟨_, 0, none⟩ 1 1 [.int .i64 xn, .int .i64 xk, .int .i64 xa, .int .u64 xv, .int .u64 xu] rfl rfl (five_new (by simp)) (fun u hu => by simp at hu; rcases hu with rfl | rfl | rfl | rfl | rfl <;> rfl) (by unfold maxLen; omega) (by omega) (by simp; omega) ?_; intro v' w1 hown' hgrow _; obtain ⟨l6, d6, rfl, F1, F5, HO6⟩ := append_far HO.out rfl hgrow hown'; clear hown' hgrow)
                              go_meet
                              case rel => exact ⟨_, _, rfl, F1, F5, HO6.out⟩
                            case rest =>
                              obtain ⟨l6, d6, hwc, F1, F5, ho6⟩ := hcut
                              subst hwc
                              have HO6 := Lib.hid ho6
                              clear ho6 HO
                              obtain rfl | rfl : xb = true ∨ xb = false := by cases xb <;> simp
                              all_goals
                                obtain rfl | rfl | rfl | rfl : xk = 1 ∨ xk = 2 ∨ xk = 3 ∨ xk = 4 := by omega
                                all_goals
                                  clear hk14
                                  go_wp2_with (fail)
                                  exact ⟨⟨i + 1, _, _, m + 1, HJ.out, by go_num, by rw [HCN.out]; rfl, by rw [HNT.out, List.length_append, ← HMM.out]; rfl, by rw [HNT.out, cellsT_snoc]; exact HO6.out _⟩, by simp [intOf]; omega⟩
                          · have hxb : (xn != (k : Int)) = true := by simpa using hxn
                            rw [if_neg hxn] at HNT HCN
                            clear hxn hk14
                            go_wp2_with (fail)
                            exact ⟨⟨i + 1, _, _, m, HJ.out, by go_num, by rw [HCN.out, later_alloc], by rw [HNT.out, List.append_nil]; exact HMM.out, by rw [HNT.out, List.append_nil]; exact HO.out.alloc _⟩, by simp [intOf]; omega⟩
                          -- L4 end
                        · obtain rfl : i = j := by have := HD.out; omega
                          have htk : ts.take i = ts := List.take_of_length_le (by rw [HD.out]; exact Nat.le_refl _)
                          rw [htk] at hmm hown ⊢
                          have hsg := logsL_get hlt ts
                          have hcg := cntsL_get hlt ts
                          obtain ⟨bs, offs, rfl⟩ := ListsAt.form HLL3.out hsg
                          obtain ⟨sa2, sqc, scell, sq1, sq2, sq3, sq4⟩ := ListsAt.at HLL3.out hsg
                          obtain ⟨bo, offo, rfl⟩ := CountsAt.form HCC3.out hcg
                          obtain ⟨e0, e1, e2, e3, e4⟩ := CountsAt.at HCC3.out hcg
                          have in1 : inB W3 bs := table.lt_of_cell scell
                          have in2 : inB W3 bo := table.lt_of_cell e0
                          have HSQ := Lib.hid sq4
                          rw [hmm] at hown
                          have HD2 := Lib.hid (own_tolds hown)
                          have HOKT : Hid (∀ x ∈ nodeT k ts, x.Ok) := Lib.hid fun x hx => by
                            obtain ⟨y, hy, rfl⟩ := List.mem_map.1 hx
                            exact HTS.out y (List.mem_filter.1 hy).1
                          have hq := run_same_count (x := cntL k ts) (cnt_wf k ts (by rw [HD.out]; exact hj200))
                          have hkI : (k : Int) < la := by omega
                          rw [← hmm] at scell sq1
                          have HMM := Lib.hid hmm
                          generalize cntL k ts = C at *
                          obtain ⟨ca, cb2, cc, cd, ce⟩ := C
                          simp only at e0 e1 e2 e3 e4 hq
                          clear hsg hcg sq1 sq2 sq3 sq4 hmm hown htk hlt4 hi htl200
                          go_upto_region 56 with (fail)
                          go_quiet ((go_at_call 52; refine (sameTolds_yes _ _ m _ _ _ (nodeT k ts) HMM.out.symm (by unfold maxLen; omega) HOKT.out ?g1 ?g2).mono ?_; (case g1 => exact ToldsAt.below HSQ.out (by repeat (first | exact Below.refl _ _ | apply bs_later | apply bs_alloc | apply bs_drew | apply bs_drewN))); (case g2 => exact HD2.out); rintro e w1 ⟨rfl, nd, rfl⟩; exact ⟨rfl, _, by rw [later_drewN, Nat.add_assoc]⟩))
                          all_goals go_wp2
                          all_goals exact ⟨⟨k + 1, _, _, hlt, by go_num, by rw [HW3.out]; exact later_al _ _ _ _ _ _⟩, by simp [intOf]; omega⟩
                    · obtain rfl : k = la := by omega
                      go_wp2_with (fail)
                      go_ret
                      exact ⟨rfl, below_trans HBW.out (by repeat (first | exact Below.refl _ _ | apply bs_later | apply bs_alloc | apply bs_drew | apply bs_drewN))⟩
                  -- F end
                · rcases hlr with ⟨h, _⟩ | ⟨_, hlo⟩
                  · exact absurd h h0
                  rcases hcr with ⟨h, _⟩ | ⟨_, hla⟩
                  · exact absurd h h0
                  subst hlo
                  subst hla
                  have h1 : (E1 != 0) = true := by simpa using h0
                  have h2 : (E1 == E1) = true := by simp
                  clear h0 HLR2 HCR2
                  go_wp2_with (fail)
                  go_ret
                  exact ⟨rfl, below_trans HBW.out (by repeat (first | exact Below.refl _ _ | apply bs_later | apply bs_alloc | apply bs_drew | apply bs_drewN))⟩
          -- D end

end Go.Proofs.Ytffhfpdmfegcpab.tallyTells
