/- The walk of the search for an order: it answers as the law of lists, and the map tells spots from which there is none. -/
import Derived.Test.YtffhfpdmfegcpacSpot
import Derived.Test.YtffhfpdmfegcpacLegal
import Derived.Test.YtffhfpdmfegcpacBankSame
import Derived.StillTailTactics
import Derived.WalkMore
import Derived.Deep.DeepCutAuto
import Derived.Deep.CutBlock
import Derived.Lib.SmallJoins
namespace Go.Proofs.Ytffhfpdmfegcpac.find
open Go.ChangeShapes Go.WideShapes Go.ChangeAt Go.RowKit
open Go.Joins (ownsRow_le)
open Go.Proofs.Ytffhfpdmfegcpac.base Go.Proofs.Ytffhfpdmfegcpac.flat Go.Proofs.Ytffhfpdmfegcpac.same Go.Proofs.Ytffhfpdmfegcpac.table Go.Proofs.Ytffhfpdmfegcpac.bank Go.Proofs.Ytffhfpdmfegcpac.atomic Go.Proofs.Ytffhfpdmfegcpac.memEq Go.Proofs.Ytffhfpdmfegcpac.play Go.Proofs.Ytffhfpdmfegcpac.told Go.Proofs.Ytffhfpdmfegcpac.turn
set_option linter.unusedVariables false
set_option linter.unusedSimpArgs false

theorem region_still {P : Program} {id : Nat} {Q : Exit → Act → World → Prop} {a : Act} {w : World} {l : List Oper} (hm : P.follows .mixedOrders = true) (hB : Region.lexB .any l.toArray = true)
    (h : wpStill P l.toArray w.drew (fun a' => Q .normal a' w.drew) l a) : (Code.region id l.toArray true).wp P Q a w := wp_region_still_lit hm hB h
theorem region_tail {P : Program} {id : Nat} {Q : Exit → Act → World → Prop} {a : Act} {w : World} {l : List Oper} (n : Nat) (hm : P.follows .mixedOrders = true) (hB : Region.lexTailB .any l.toArray n = true)
    (h : wpStill P l.toArray w.drew (fun a' => wpList P l.toArray Q (l.drop n) a' w.drew) (l.take n) a) : (Code.region id l.toArray true).wp P Q a w := wp_region_still_tail n hm hB h
theorem still_load {P : Program} {ops : Array Oper} {rest : List Oper} {o : Oper} {a : Act} {w : World} {Q : Act → Prop} (hgd : o.guard = none) (ty : TypeId) (x : Operand) (ho : o.op = .load ty x)
    (n : Nat) (hx : a.eval x = .pointer (some ⟨n, 0, none⟩)) (k : Nat) (d : TypeDesc) (hu : P.underlying ty = some d) (hd : (match d with | .struct _ | .array _ _ => true | _ => false) = true) (hi : (P.info? ty).map (·.size) = some k)
    (h : okRow w n k) (hK : ∀ C, rowOf w n = C → wpStill P ops w Q rest (a.put o.dst (.agg C))) : wpStill P ops w Q (o :: rest) a := by
  refine wpStill_step fun K hK' => ?_
  have hw : Region.wanted o (yielded ops a.tmps) = true := by simp [Region.wanted, hgd]
  rw [if_pos hw]
  unfold Oper.still execOp
  simp only [ho, hx, Instr.loadAt, Instr.sureAddr, Sem.run_bind, Sem.run_pure, Result.andThen_ok, run_load_row w n ty k d hu hd hi h]
  exact ⟨rfl, hK' _ (hK _ rfl)⟩
theorem still_look {logs : List (List T5)} {n b : Nat} {ob : Obj} {w : World} {a' : List Nat} {m : List Int} {ops : Array Oper} {rest : List Oper} {op : Oper} {a : Act} {Q : Act → Prop}
    (hg : op.guard = none) (x y : Operand) (hop : op.op = .lookup 98 x y false) (hx : a.eval x = .map (some b)) (hy : a.eval y = .agg (spotA a' m))
    (h : Dead logs n ob) (hb : w.heap[b]? = some ob) (hs : SpotOk a' m) (hK : ∀ c, (c = true → search logs (leftL logs a') a' m = none) → wpStill Try.prog ops w Q rest (a.put op.dst (.bool c))) : wpStill Try.prog ops w Q (op :: rest) a := by
  refine wpStill_step fun K hK' => ?_
  obtain ⟨c, hrun, hc⟩ := dead_look h hb hs
  have hw : Region.wanted op (yielded ops a.tmps) = true := by simp [Region.wanted, hg]
  rw [if_pos hw]
  unfold Oper.still
  simp [execOp, hop, hx, hy, hrun, Result.andThen, Oper.stillUpon]
  exact hK' _ (hK c hc)

theorem info_intF : (Try.prog.info? 3).map (fun i => (i.zero, i.size, i.bytes)) = some (some (.int .i64 0), 1, 8) := by kernel_rfl
theorem one_newF {W : World} {v : Value} {t : TypeId} {g : Nat} (hg : g = W.heap.size) : ∀ (j : Nat) (u : Value), [v][j]? = some u → (W.alloc (.cells #[v] t)).cell? ((⟨g, 0, none⟩ : Addr).add j) = some u := by
  intro j u h
  subst hg
  cases j with
  | zero => simp at h; subst h; simp [Addr.add]
  | succ j => simp at h
theorem at_wp {P : Program} {ops : Array Oper} {rest : List Oper} {o : Oper} {a : Act} {w : World} {Q : Exit → Act → World → Prop} (h : wpList P ops Q (o :: rest) a w) : wpList P ops Q (o :: rest) a w := h
/-- how many spots a search tells at most -/
def adds : Nat → Nat
  | 0 => 0
  | n + 1 => 8 * adds n + 1
def ansL (s : Option (List Nat)) : List Value := (s.getD []).reverse.map fun i : Nat => Value.int .i64 (i : Int)
def FromPost (logs : List (List T5)) (n0 bm : Nat) (w : World) (s : Option (List Nat)) (ad : Nat) (e : Ending) (w' : World) : Prop :=
  ∃ v o l d, e = .returned (.tuple #[v, .bool s.isSome]) ∧ w' = (w.turn bm o).later l d ∧ Dead logs (n0 + ad) o ∧ w'.ownsRow w.heap.size 3 1 v (s.getD []).length (ansL s)
/-- what the search reads: the logs, and the map's place -/
def Ctx (logs : List (List T5)) (sb bm : Nat) (la : Option Addr) (lc : Nat) (w : World) : Prop :=
  w.cell? ⟨sb, 0, none⟩ = some (.slice la logs.length lc) ∧ w.cell? ⟨sb, 1, none⟩ = some (.map (some bm)) ∧ ListsAt ToldsAt w la logs
theorem Ctx.kept {logs : List (List T5)} {sb bm : Nat} {la : Option Addr} {lc : Nat} {w w' : World} (h : Ctx logs sb bm la lc w) (hk : Kept w w') : Ctx logs sb bm la lc w' :=
  ⟨hk _ _ _ h.1, hk _ _ _ h.2.1, ListsAt.kept (Q := ToldsAt) (fun h => RowsAt.kept h hk) hk h.2.2⟩
theorem Ctx.below {logs : List (List T5)} {sb bm : Nat} {la : Option Addr} {lc : Nat} {w w' : World} (h : Ctx logs sb bm la lc w) (hb : Below w.heap.size w w') : Ctx logs sb bm la lc w' :=
  ⟨by rw [hb.cell (p := ⟨sb, 0, none⟩) (table.lt_of_cell h.1)]; exact h.1, by rw [hb.cell (p := ⟨sb, 1, none⟩) (table.lt_of_cell h.2.1)]; exact h.2.1, ListsAt.below (Q := ToldsAt) (fun hb h => ToldsAt.below h hb) h.2.2 hb⟩
theorem map_below {w w' : World} {b : Nat} {o : Obj} (h : w.heap[b]? = some o) (hb : Below w.heap.size w w') : w'.heap[b]? = some o := by
  rw [hb.block b (Array.getElem?_eq_some_iff.1 h).1]; exact h
theorem turn_al {W : World} {bm : Nat} (hin : inB W bm) (X : Obj) (L l1 : Array Obj) (D d1 : Nat) (o2 : Obj) : (((W.alloc X).later L D).turn bm o2).later l1 d1 = ((W.turn bm o2).alloc X).later (L ++ l1) d1 := by
  rw [turn_later _ _ _ ((inB_alloc X).2 (.inr hin)), turn_alloc _ _ hin, later_later]
theorem found_al {W : World} {bm : Nat} (hin : inB W bm) {X : Obj} {L l1 : Array Obj} {D d1 : Nat} {o2 : Obj} {base size n : Nat} {e : TypeId} {v : Value} {xs : List Value} (h : ((((W.alloc X).later L D).turn bm o2).later l1 d1).ownsRow base e size v n xs) :
    ∃ LL, (((W.alloc X).later L D).turn bm o2).later l1 d1 = ((W.turn bm o2).alloc X).later LL d1 ∧ (((W.turn bm o2).alloc X).later LL d1).ownsRow base e size v n xs := by
  refine ⟨_, turn_al hin X L l1 D d1 o2, ?_⟩
  rw [← turn_al hin X L l1 D d1 o2]
  exact h
theorem alloc_is_later (w : World) (x : Obj) : w.alloc x = w.later #[x] w.drawn := (congrArg (·.alloc x) (later_zero w)).trans (by rw [later_alloc]; rfl)
theorem spot_bump {logs : List (List T5)} {a : List Nat} {m m' : List Int} {k i : Nat} (h : SpotOk a m) (hi : a[k]? = some i) (h12 : i ≤ 12) (hm : m'.length = 64) (hw : AllU m') : SpotOk (bump a k) m' :=
  ⟨by rw [len_bump]; exact h.1, hm, fun x hx => by
    rw [bump_eq hi] at hx
    rcases List.mem_or_eq_of_mem_set hx with h1 | h1
    · exact h.2.2.1 x h1
    · omega, hw⟩
def stepF (logs : List (List T5)) (n : Nat) (a : List Nat) (m : List Int) (k : Nat) : Option (List Nat) := (stepK logs a m k).bind fun t => (search logs n (bump a k) (plainM m t.d.k t.d.a t.d.v)).map (k :: ·)
theorem search_succ (logs : List (List T5)) (n : Nat) (a : List Nat) (m : List Int) : search logs (n + 1) a m = firstK (stepF logs n a m) 0 logs.length := rfl
def RelF (logs : List (List T5)) (n n0 bm : Nat) (a : List Nat) (m : List Int) (w0 : World) (i : Value) (wr : World) : Prop :=
  ∃ (k : Nat) (o : Obj) (l : Array Obj) (d : Nat), k ≤ logs.length ∧ i = .int .i64 k ∧ wr = ((w0.turn bm o).alloc (.cells (spotA a m) 105)).later l d ∧ Dead logs (n0 + k * adds n) o ∧ ∀ j, j < k → stepF logs n a m j = none
theorem next_none {logs : List (List T5)} {n : Nat} {a : List Nat} {m : List Int} {k : Nat} (h : ∀ j, j < k → stepF logs n a m j = none) (hk : stepF logs n a m k = none) : ∀ j, j < k + 1 → stepF logs n a m j = none := fun j hj => by
  by_cases e : j = k
  · subst e; exact hk
  · exact h j (by omega)

set_option maxHeartbeats 8000000 in
set_option maxRecDepth 100000 in
theorem from_any (logs : List (List T5)) (h8 : logs.length ≤ 8) (hgood : ∀ l ∈ logs, l.length ≤ 12 ∧ ∀ x ∈ l, badOf x.d = 0 ∧ x.Ok) (sb bm : Nat) (la : Option Addr) (lc : Nat) :
    ∀ (n : Nat) (a : List Nat) (m : List Int) (n0 : Nat) (o : Obj) (w : World), SpotOk a m → Fit logs a → leftL logs a = n → Dead logs n0 o → n0 + adds n < maxLen → n ≤ 1000 → w.heap[bm]? = some o → Ctx logs sb bm la lc w →
      Calls Try.prog 38 #[.pointer (some ⟨sb, 0, none⟩), .agg (spotA a m), .int .i64 (n : Int)] w (FromPost logs n0 bm w (search logs n a m) (adds n)) := by
  intro n
  induction n with
  | zero =>
    intro a m n0 o w hs hf hl hd hmx _ hb hc
    -- Z begin
    have HD := Lib.hid hd
    have HB := Lib.hid hb
    have hz : (((0 : Nat) : Int) == 0) = true := rfl
    clear hs hf hl hd hmx hb hc hgood
    go_enter Try.func38, Try.ntmps38
    go_wp2
    go_step3
    go_wp2
    rw [Exit.noGoto_ret]
    go_ret2
    exact ⟨_, o, _, _, rfl, by rw [turn_self HB.out]; exact alloc_is_later _ _, HD.out.mono (Nat.le_add_right _ _), World.ownsRow_nil _ _ _ _⟩
    -- Z end
  | succ n ih =>
    intro a m n0 o w hs hf hl hd hmx hn1000 hb hc
    have HSX : Hid ((spotA a m).size = 72) := Lib.hid (spotA_size hs.1 hs.2.1)
    have hn1 : (((n : Int) + 1) == 0) = false := by simp; omega
    have hn2 : ((n + 1 : Nat) : Int) = (n : Int) + 1 := rfl
    have hinw : inB w bm := (Array.getElem?_eq_some_iff.1 hb).1
    have c0 := hc.1
    have c1 := hc.2.1
    have hin0 : inB w sb := table.lt_of_cell c0
    have HS := Lib.hid hs
    have HF := Lib.hid hf
    have HL := Lib.hid hl
    have HD := Lib.hid hd
    have HMX := Lib.hid hmx
    have HB := Lib.hid hb
    have HC := Lib.hid hc
    have HG := Lib.hid hgood
    have HI := Lib.hid ih
    have hsb : sb ≠ bm := by
      obtain ⟨es, ck, rfl⟩ := hd.isMap
      exact ne_of_map hb c0
    rw [hn2]
    clear hs hf hl hd hmx hb hc hgood ih hn2
    have h8I : (logs.length : Int) ≤ 8 := by omega
    go_enter Try.func38, Try.ntmps38
    go_wp2
    go_step3
    go_upto_region 3 with (fail)
    refine region_still (by kernel_rfl) (by kernel_rfl) ?_
    still_step
    still_step
    still_step
    still_step
    refine still_load rfl 105 _ rfl _ rfl 72 _ Try.underlying105 rfl (by kernel_rfl) (by (simp [go_sem, HSX.out]; done)) ?_
    intro C hC
    simp [go_sem] at hC
    subst hC
    refine still_look rfl _ _ rfl rfl rfl HD.out (map_below HB.out (by repeat (first | exact Below.refl _ _ | apply bs_later | apply bs_alloc | apply bs_drew | apply bs_drewN))) HS.out ?_
    intro c hcc
    refine wpStill_nil ?_
    rw [HL.out] at hcc
    cases c with
    | true => as_aux_lemma =>
      -- T begin
      have HE := Lib.hid (hcc rfl)
      clear hcc HI
      go_wp2
      rw [Exit.noGoto_ret]
      go_ret2
      exact ⟨.slice none 0 0, o, _, _, by rw [HE.out]; rfl, by rw [turn_self HB.out]; exact (congrArg World.drew (alloc_is_later _ _)).trans rfl, HD.out.mono (Nat.le_add_right _ _), by rw [HE.out]; exact World.ownsRow_nil _ _ _ _⟩
      -- T end
    | false =>
      clear hcc
      go_wp2
      go_step3
      go_wp2
      go_loopw [28] (RelF logs n n0 bm a m w) (fun i _ => logs.length - (intOf i).toNat)
      case atStart => exact ⟨0, o, #[], _, Nat.zero_le _, rfl, by rw [turn_self HB.out]; rfl, by simpa using HD.out, fun j hj => by omega⟩
      case round =>
        obtain ⟨k, o1, l, d, hk, rfl, rfl, hd1, hno⟩ := hrel
        obtain ⟨W, hW⟩ : ∃ W, W = w.turn bm o1 := ⟨_, rfl⟩
        have hsz : w.heap.size = W.heap.size := by rw [hW, size_turn]
        have hbW : W.heap[bm]? = some o1 := by rw [hW]; exact heap_turn hinw o1
        have hcW : Ctx logs sb bm la lc W := by
          rw [hW]
          obtain ⟨es, ck, ho⟩ := HD.out.isMap
          exact HC.out.kept (kept_turn (by rw [← ho]; exact HB.out) _)
        have HT : Hid (∀ o', W.turn bm o' = w.turn bm o') := Lib.hid fun o' => by rw [hW, turn_turn]
        have HSZ := Lib.hid hsz
        have HWW := Lib.hid hW
        rw [← hW, hsz]
        have hin : inB W bm := (Array.getElem?_eq_some_iff.1 hbW).1
        have d0 := hcW.1
        have hinS : inB W sb := table.lt_of_cell d0
        have HBW := Lib.hid hbW
        have HCW := Lib.hid hcW
        have HD1 := Lib.hid hd1
        have HNO := Lib.hid hno
        clear c0 c1 hin0 HB HC HD hinw hW hsz hbW hcW hd1 hno
        by_cases hlt : k < logs.length
        · as_aux_lemma =>
          obtain ⟨lg, hlg⟩ := get_some hlt
          obtain ⟨i, hai, hil⟩ := HF.out k lg hlg
          have hg := HG.out lg (List.mem_of_getElem? hlg)
          obtain ⟨b, off, hla⟩ := ListsAt.form HCW.out.2.2 hlg
          subst hla
          obtain ⟨p, pc, e0, q1, q2, q3, q4⟩ := ListsAt.at HCW.out.2.2 hlg
          have hinb : inB W b := table.lt_of_cell e0
          have ha8 : a.length = 8 := HS.out.1
          have hk8 : k < 8 := by omega
          have hcx : (spotA a m)[k]? = some (.int .i64 (i : Int)) := spotA_at hai
          have hl12 := hg.1
          have hKL : Hid (k + 1 ≤ logs.length) := Lib.hid hlt
          have hlI : (lg.length : Int) ≤ 12 := by omega
          have hkI : (k : Int) < logs.length := by omega
          have hk8I : (k : Int) < 8 := by omega
          by_cases hend : i = lg.length
          · have hee : ((i : Int) == (lg.length : Int)) = true := by simp; omega
            have HN : Hid (stepF logs n a m k = none) := Lib.hid (by unfold stepF; rw [stepK_end hlg hai (by omega)]; rfl)
            clear hend hg hlg hai hil
            go_wp2
            go_roundw
            case rel => exact ⟨k + 1, o1, l, d, hKL.out, by go_num, by rw [HWW.out], HD1.out.mono (by rw [Nat.succ_mul]; omega), next_none HNO.out HN.out⟩
            case measure => simp [intOf]; omega
          · have hee : ((i : Int) == (lg.length : Int)) = false := by simp; omega
            have hilt : i < lg.length := by omega
            have hiI : (i : Int) < lg.length := by omega
            have hi12 : (i : Int) ≤ 12 := by omega
            obtain ⟨x, hx⟩ := get_some hilt
            obtain ⟨b2, off2, hp⟩ := ToldsAt.form q4 hx
            subst hp
            obtain ⟨f0, f1, f2, f3, f4⟩ := ToldsAt.at q4 hx
            have hinx : inB W b2 := table.lt_of_cell f0
            obtain ⟨hbad, hxok⟩ := hg.2 x (List.mem_of_getElem? hx)
            have PD := fun w => Do_ok m HS.out.2.1 x.d.n x.d.k x.d.a x.d.v w hbad
            have hzl : (plainM m x.d.k x.d.a x.d.v).length = 64 := by rw [plainM_len]; exact HS.out.2.1
            have hzw : AllU (plainM m x.d.k x.d.a x.d.v) := plainM_wf HS.out.2.2.2 _ _ hxok.1.2.2.2
            have HSS := Lib.hid (spot_bump (logs := logs) HS.out hai (by omega) hzl hzw)
            have HFF := Lib.hid (fit_bump HF.out hlg hai hilt)
            have HLL : Hid (leftL logs (bump a k) = n) := Lib.hid (by have := left_bump hlg hai hilt; rw [HL.out] at this; omega)
            have HST : Hid (plainV m x.d.k x.d.a = x.u → stepF logs n a m k = (search logs n (bump a k) (plainM m x.d.k x.d.a x.d.v)).map (k :: ·)) := Lib.hid fun h => by unfold stepF; rw [stepK_mk hlg hai hx h]; rfl
            have HSO : Hid (¬ plainV m x.d.k x.d.a = x.u → stepF logs n a m k = none) := Lib.hid fun h => by unfold stepF; rw [stepK_odd hlg hai hx h]; rfl
            have HXM : Hid ((spotA a m).extract 8 72 = memA m) := Lib.hid (spotA_mem HS.out.1 HS.out.2.1)
            have HSP : Hid (splice (spotA a m) 8 (memA (plainM m x.d.k x.d.a x.d.v)) = spotA a (plainM m x.d.k x.d.a x.d.v)) := Lib.hid (spotA_splice HS.out.1 HS.out.2.1 hzl)
            have HSET : Hid ((spotA a (plainM m x.d.k x.d.a x.d.v)).setIfInBounds k (.int .i64 ((i : Int) + 1)) = spotA (bump a k) (plainM m x.d.k x.d.a x.d.v)) := Lib.hid (by
              have h := spotA_set (at_ := a) (m := plainM m x.d.k x.d.a x.d.v) (k := k) (i := i + 1) (by omega)
              rw [bump_eq hai, ← h]
              rfl)
            have HSY : Hid ((spotA a (plainM m x.d.k x.d.a x.d.v)).size = 72) := Lib.hid (spotA_size HS.out.1 hzl)
            have HZS : Hid ((memA (plainM m x.d.k x.d.a x.d.v)).size = 64) := Lib.hid (by rw [size_memA, hzl])
            have hcy : (spotA a (plainM m x.d.k x.d.a x.d.v))[k]? = some (.int .i64 (i : Int)) := spotA_at hai
            obtain ⟨⟨xn, xk, xa, xv⟩, xu⟩ := x
            simp only at f0 f1 f2 f3 f4 PD hzl hzw HSS HLL HST HSO HSP HSET HSY HZS hcy
            generalize plainM m xk xa xv = zs at *
            generalize plainV m xk xa = z at *
            have HDO := Lib.hid PD
            clear PD hzl hzw hbad hxok hx hg hlg hai hil q4 q3 hend
            by_cases hz : z = xu
            · have hz' : (z != xu) = false := by simpa using hz
              have HSTEP := Lib.hid (HST.out hz)
              clear hz HST HSO
              obtain ⟨s, hs⟩ : ∃ s, s = search logs n (bump a k) zs := ⟨_, rfl⟩
              have IH := HI.out (bump a k) zs (n0 + k * adds n) o1
              rw [← hs] at IH
              have HST : Hid (stepF logs n a m k = s.map (k :: ·)) := Lib.hid (by rw [hs]; exact HSTEP.out)
              have HSL : Hid ((s.getD []).length ≤ 1000) := Lib.hid (by
                rw [hs]
                cases hq : search logs n (bump a k) zs with
                | none => exact Nat.zero_le _
                | some ps =>
                  have := ord_len (search_sound HFF.out HLL.out hq)
                  rw [HLL.out] at this
                  show ps.length ≤ 1000
                  omega)
              have HMY : Hid (n0 + k * adds n + adds n < maxLen ∧ n0 + k * adds n + adds n ≤ n0 + adds (n + 1)) := Lib.hid (by
                have h1 := HMX.out
                have h2 : k * adds n + adds n ≤ 8 * adds n := by rw [← Nat.succ_mul]; exact Nat.mul_le_mul_right _ hk8
                have h3 : adds (n + 1) = 8 * adds n + 1 := rfl
                omega)
              have HI2 := Lib.hid IH
              clear IH HI HSTEP hs
              cases s with
              | none =>
                -- N begin
                go_wp2_with (first
                  | ((with_reducible refine at_wp ?_); refine wpList_load_r rfl 105 _ rfl _ rfl 72 _ Try.underlying105 rfl (by kernel_rfl) (by (simp [go_sem, HSX.out, HSY.out]; done)) ?_; intro C hC; simp [go_sem, HSET.out] at hC; subst hC)
                  | ((with_reducible refine at_wp ?_); refine wpList_store_r rfl 105 _ _ rfl _ rfl _ rfl 72 (by kernel_rfl) (by (simp [go_sem, HSX.out, HSY.out]; done)) (by (simp [HSX.out, HSY.out]; done)) (spotA_one _ _) ?_; intro W' hW'; simp [go_sem] at hW'; subst hW')
                  | ((with_reducible refine at_wp ?_); refine wpList_load_sub rfl 26 _ rfl _ _ rfl 64 72 _ Try.underlying26 rfl (by kernel_rfl) (by (simp [go_sem, HSX.out, HSY.out]; done)) (by omega) ?_; intro C hC; simp [go_sem, HXM.out] at hC; subst hC)
                  | ((with_reducible refine at_wp ?_); refine wpList_store_sub rfl 26 _ _ rfl _ _ rfl _ rfl 64 72 (by kernel_rfl) (by (simp [go_sem, HSX.out, HSY.out]; done)) (by omega) (by (simp [HZS.out]; done)) (memA_one _) ?_; intro W' hW'; simp [go_sem, HSP.out] at hW'; subst hW')
                  | (go_at_call 40; refine (HDO.out _).mono ?_; rintro e w1 ⟨rfl, hb1⟩; obtain ⟨l1, d1, rfl⟩ := later_of hb1; clear hb1)
                  | (go_at_call 38; simp only [later_alloc, later_later]; refine (HI2.out _ HSS.out HFF.out HLL.out HD1.out HMY.out.1 (by omega) (map_below HBW.out (by repeat (first | exact Below.refl _ _ | apply bs_later | apply bs_alloc | apply bs_drew | apply bs_drewN))) (HCW.out.below (by repeat (first | exact Below.refl _ _ | apply bs_later | apply bs_alloc | apply bs_drew | apply bs_drewN)))).mono ?_; rintro e w1 ⟨v, o2, l2, d2, rfl, rfl, hd2, hown⟩; rw [turn_al hin]; simp only [Option.isSome_none]; have HD2 := Lib.hid hd2; clear hd2 hown))
                go_roundw
                case rel => exact ⟨k + 1, o2, _, _, hKL.out, by go_num, by rw [HT.out], by rw [Nat.succ_mul, ← Nat.add_assoc]; exact HD2.out, next_none HNO.out HST.out⟩
                case measure => simp [intOf]; omega
                -- N end
              | some ps =>
                -- S begin
                go_upto_region 17 with (first
                  | ((with_reducible refine at_wp ?_); refine wpList_load_r rfl 105 _ rfl _ rfl 72 _ Try.underlying105 rfl (by kernel_rfl) (by (simp [go_sem, HSX.out, HSY.out]; done)) ?_; intro C hC; simp [go_sem, HSET.out] at hC; subst hC)
                  | ((with_reducible refine at_wp ?_); refine wpList_store_r rfl 105 _ _ rfl _ rfl _ rfl 72 (by kernel_rfl) (by (simp [go_sem, HSX.out, HSY.out]; done)) (by (simp [HSX.out, HSY.out]; done)) (spotA_one _ _) ?_; intro W' hW'; simp [go_sem] at hW'; subst hW')
                  | ((with_reducible refine at_wp ?_); refine wpList_load_sub rfl 26 _ rfl _ _ rfl 64 72 _ Try.underlying26 rfl (by kernel_rfl) (by (simp [go_sem, HSX.out, HSY.out]; done)) (by omega) ?_; intro C hC; simp [go_sem, HXM.out] at hC; subst hC)
                  | ((with_reducible refine at_wp ?_); refine wpList_store_sub rfl 26 _ _ rfl _ _ rfl _ rfl 64 72 (by kernel_rfl) (by (simp [go_sem, HSX.out, HSY.out]; done)) (by omega) (by (simp [HZS.out]; done)) (memA_one _) ?_; intro W' hW'; simp [go_sem, HSP.out] at hW'; subst hW')
                  | (go_at_call 40; refine (HDO.out _).mono ?_; rintro e w1 ⟨rfl, hb1⟩; obtain ⟨l1, d1, rfl⟩ := later_of hb1; clear hb1)
                  | (go_at_call 38; simp only [later_alloc, later_later]; refine (HI2.out _ HSS.out HFF.out HLL.out HD1.out HMY.out.1 (by omega) (map_below HBW.out (by repeat (first | exact Below.refl _ _ | apply bs_later | apply bs_alloc | apply bs_drew | apply bs_drewN))) (HCW.out.below (by repeat (first | exact Below.refl _ _ | apply bs_later | apply bs_alloc | apply bs_drew | apply bs_drewN)))).mono ?_; rintro e w1 ⟨v, o2, l2, d2, rfl, rfl, hd2, hown⟩; obtain ⟨LL, hLL, hown2⟩ := found_al hin hown; rw [hLL]; clear hLL; simp only [Option.isSome_some]; have HD2 := Lib.hid hd2; have HO := Lib.hid (ownsRow_le (base' := W.heap.size) hown2 (by first | (simp; done) | (simp; omega))); clear hd2 hown hown2))
                obtain ⟨i0, hi, hz0, hz1, hz2⟩ := info_parts info_intF
                refine wp_region_lit ?_
                go_wp2_with (at_builtin; refine wpList_append_own _ rfl _ _ 30 rfl W.heap.size 3 i0 (.int .i64 0) 1 8 Try.underlying30 hi hz0 hz1 hz2 rfl (by decide) _ _ _ rfl (HO.out.alloc _) _ 1 1 [.int .i64 (k : Int)] rfl rfl ?c1 ?c2 ?c3 ?c4 ?c5 ?_; (case c1 => exact one_newF (by simp)); (case c2 => intro u hu; simp at hu; subst hu; rfl); (case c3 => have := HSL.out; unfold maxLen; omega); (case c4 => have := HSL.out; omega); (case c5 => simp; omega); intro v' w1 hown' hgrow _; have hb2 := below_grown (W0 := W.turn bm o2) (by repeat (first | exact Below.refl _ _ | apply bs_later | apply bs_alloc | apply bs_drew | apply bs_drewN)) hgrow (fun g hg => by have := (HO.out.lt g hg).1; simp; omega); obtain ⟨l6, d6, rfl⟩ := later_of hb2; have HO2 := Lib.hid hown'; clear hown' hgrow hb2)
                rw [Exit.noGoto_ret]
                go_ret2
                have hsr : search logs (n + 1) a m = some (k :: ps) := by
                  rw [search_succ]
                  exact firstK_at (fun j _ hj => HNO.out j hj) (Nat.zero_le _) (by have := hKL.out; omega) HST.out
                rw [hsr]
                refine ⟨_, o2, l6, d6, rfl, by rw [HT.out], HD2.out.mono HMY.out.2, ?_⟩
                have h6 := HO2.out
                rw [← HSZ.out] at h6
                have e1 : ansL (some (k :: ps)) = ansL (some ps) ++ [.int .i64 (k : Int)] := by simp [ansL]
                rw [e1]
                exact h6
                -- S end
            · have hz' : (z != xu) = true := by simpa using hz
              have HN := Lib.hid (HSO.out hz)
              clear hz HST HSO HI
              -- O begin
              go_wp2_with (first
                | ((with_reducible refine at_wp ?_); refine wpList_load_r rfl 105 _ rfl _ rfl 72 _ Try.underlying105 rfl (by kernel_rfl) (by (simp [go_sem, HSX.out, HSY.out]; done)) ?_; intro C hC; simp [go_sem, HSET.out] at hC; subst hC)
                | ((with_reducible refine at_wp ?_); refine wpList_store_r rfl 105 _ _ rfl _ rfl _ rfl 72 (by kernel_rfl) (by (simp [go_sem, HSX.out, HSY.out]; done)) (by (simp [HSX.out, HSY.out]; done)) (spotA_one _ _) ?_; intro W' hW'; simp [go_sem] at hW'; subst hW')
                | ((with_reducible refine at_wp ?_); refine wpList_load_sub rfl 26 _ rfl _ _ rfl 64 72 _ Try.underlying26 rfl (by kernel_rfl) (by (simp [go_sem, HSX.out, HSY.out]; done)) (by omega) ?_; intro C hC; simp [go_sem, HXM.out] at hC; subst hC)
                | ((with_reducible refine at_wp ?_); refine wpList_store_sub rfl 26 _ _ rfl _ _ rfl _ rfl 64 72 (by kernel_rfl) (by (simp [go_sem, HSX.out, HSY.out]; done)) (by omega) (by (simp [HZS.out]; done)) (memA_one _) ?_; intro W' hW'; simp [go_sem, HSP.out] at hW'; subst hW')
                | (go_at_call 40; refine (HDO.out _).mono ?_; rintro e w1 ⟨rfl, hb1⟩; obtain ⟨l1, d1, rfl⟩ := later_of hb1; clear hb1))
              simp only [later_alloc, later_later]
              go_roundw
              case rel => exact ⟨k + 1, o1, _, _, hKL.out, by go_num, by rw [HWW.out], HD1.out.mono (by rw [Nat.succ_mul]; omega), next_none HNO.out HN.out⟩
              case measure => simp [intOf]; omega
              -- O end
        · obtain rfl : k = logs.length := by omega
          have HNS : Hid (search logs (n + 1) a m = none) := Lib.hid (by rw [search_succ]; exact firstK_no fun j _ hj => HNO.out j (by omega))
          have HLS : Hid (search logs (leftL logs a) a m = none) := Lib.hid (by rw [HL.out]; exact HNS.out)
          have HMY : Hid (n0 + logs.length * adds n < maxLen ∧ n0 + logs.length * adds n + 1 ≤ n0 + adds (n + 1)) := Lib.hid (by
            have h1 := HMX.out
            have h2 : logs.length * adds n ≤ 8 * adds n := Nat.mul_le_mul_right _ h8
            have h3 : adds (n + 1) = 8 * adds n + 1 := rfl
            omega)
          have d1 := HCW.out.2.1
          -- M begin
          clear HI
          go_upto_region 19 with (fail)
          refine region_tail 5 (by kernel_rfl) (by kernel_rfl) ?_
          simp only [List.take_succ_cons, List.take_zero, List.drop_succ_cons, List.drop_zero]
          still_step
          still_step
          still_step
          still_step
          refine still_load rfl 105 _ rfl _ rfl 72 _ Try.underlying105 rfl (by kernel_rfl) (by (simp [go_sem, HSX.out]; done)) ?_
          intro C hC
          simp [go_sem] at hC
          subst hC
          refine wpStill_nil ?_
          refine wpList_put_dead rfl _ _ _ rfl rfl rfl rfl HD1.out (map_below HBW.out (by repeat (first | exact Below.refl _ _ | apply bs_later | apply bs_alloc | apply bs_drew | apply bs_drewN))) HMY.out.1 HS.out HLS.out ?_
          intro o2 hd2
          have HD2 := Lib.hid hd2
          clear hd2
          go_wp2
          rw [Exit.noGoto_ret]
          go_ret2
          exact ⟨.slice none 0 0, o2, _, _, by rw [HNS.out]; rfl, by rw [HT.out, alloc_is_later, later_later], HD2.out.mono HMY.out.2, by rw [HNS.out]; exact World.ownsRow_nil _ _ _ _⟩
          -- M end
end Go.Proofs.Ytffhfpdmfegcpac.find
