/- The contracts of ringdoveref.Bits and ringdoveref.Touched. -/
import Derived.Test.YtffhfpdmfegcpaaRoad
import Derived.Test.YtffhfpdmfegcpaaMem
import Derived.Outline
namespace Go.Proofs.Ytffhfpdmfegcpaa.road
open Go.ChangeShapes Go.WideShapes Go.ChangeAt Go.RowKit
open Go.Proofs.Ytffhfpdmfegcpaa.base
set_option linter.unusedVariables false
set_option linter.unusedSimpArgs false

set_option maxRecDepth 100000 in
theorem bits_any (a b c : Bool) (w : World) : Calls Try.prog 56 #[.agg #[.bool a, .bool b, .bool c]] w (Ret (.agg #[.bool a, .bool b, .bool c]) w) := by
  go_enter Try.func56, Try.ntmps56
  go_wp2
  go_returns
  exact ⟨rfl, by repeat (first | exact Below.refl _ _ | apply bs_later | apply bs_alloc | apply bs_drew | apply bs_drewN)⟩

def fOf (f : Int → Option Bool) (L : List (Int × Bool)) : Int → Option Bool := L.foldl (fun f p => fun y => if y = p.1 then some p.2 else f y) f
theorem holds_putL : ∀ (L : List (Int × Bool)) {D : DataW Unit} {f : Int → Option Bool}, Holds D f → Maps.IsMap D → Holds (putL D L) (fOf f L)
  | [], _, _, h, _ => h
  | p :: L, D, f, h, hD => holds_putL L (holds_put h hD trivial p.2) (hD.put _ _)
def roadF (n k : Int) : Int → Option Bool := fOf (fun _ => none) (roadL n k)
theorem road_holds (n k : Int) : Holds (roadD n k) (roadF n k) := holds_putL _ holds_nil Maps.isMap_empty
theorem roadF_key (n k x : Int) (h : (roadF n k x).isSome) : x = 0 ∨ x = 1 ∨ x = 2 := by
  refine Classical.byContradiction fun hx => ?_
  have h0 : ¬ x = 0 := fun e => hx (.inl e)
  have h1 : ¬ x = 1 := fun e => hx (.inr (.inl e))
  have h2 : ¬ x = 2 := fun e => hx (.inr (.inr e))
  unfold roadF roadL at h
  split at h
  · simp [fOf, h0, h1, h2] at h
  · split at h
    · split at h
      · simp [fOf, h0, h1, h2] at h
      · split at h
        · simp [fOf, h0, h1, h2] at h
        · simp [fOf, h0, h1, h2] at h
    · simp [fOf] at h

set_option maxRecDepth 100000 in
/-- an entry that comes of the map: which one it is -/
theorem came {D : DataW Unit} {f : Int → Option Bool} (hD : Holds D f) {x : Int} {c : Bool} {kl : Lit} {y : DataW Unit × List MemPlace} (hk : keyOf Try.prog 3 (.int .i64 x) = some kl) (hv : RB (.bool c) = some y) (hat : ∀ zd, D.atKey kl zd = y.1) : kl = .int .i64 x ∧ f x = some c := by
  obtain ⟨x', ex, rfl, _⟩ := Maps.keyOf_int_inv Try.underlying3 hk
  injection ex with _ ex
  subst ex
  refine ⟨rfl, ?_⟩
  have e : RB (.bool c) = some (.lit (.bool c), []) := plainElem_bool Try.underlying4 c
  obtain rfl := Option.some.inj (e.symm.trans hv)
  clear e hv
  have h1 := hat (.map [])
  rw [hD.2] at h1
  cases hf : f x with
  | none => rw [hf] at h1; cases h1
  | some b => rw [hf] at h1; injection h1 with h1; injection h1 with h1; rw [h1]

/-- the bit, while some entries are still to come -/
def bitB (f : Int → Option Bool) (left : Lit → Bool) (i : Int) (b : Bool) : Bool := match f i with | some v => if left (.int .i64 i) then b else !v | none => b
theorem bitB_start {f : Int → Option Bool} {D : DataW Unit} (h : Holds D f) (i : Int) (b : Bool) : bitB f (Maps.has D) i b = b := by
  unfold bitB
  cases hf : f i with
  | none => rfl
  | some v => simp only; rw [h.1, hf]; rfl
def bitE (f : Int → Option Bool) (i : Int) (b : Bool) : Bool := match f i with | some v => !v | none => b
theorem bitB_end {f : Int → Option Bool} {left : Lit → Bool} (h : ∀ kl, left kl = false) (i : Int) (b : Bool) : bitB f left i b = bitE f i b := by
  unfold bitB bitE
  cases hf : f i with
  | none => rfl
  | some v => simp only; rw [h]; rfl
theorem bitB_same {f : Int → Option Bool} {left : Lit → Bool} {x : Int} {c : Bool} (hx : f x = some c) (b : Bool) : bitB f (fun z => left z && !z.sameKey (.int .i64 x)) x b = !c := by
  unfold bitB
  rw [hx]
  simp [WideAt.sameKey_self (a := .int .i64 x) trivial]
theorem bitB_other {f : Int → Option Bool} {left : Lit → Bool} {x i : Int} (hx : i ≠ x) (b : Bool) : bitB f (fun z => left z && !z.sameKey (.int .i64 x)) i b = bitB f left i b := by
  unfold bitB
  cases hf : f i with
  | none => rfl
  | some v => simp [Maps.sameKey_ne (a := .int .i64 i) (b := .int .i64 x) (fun h => hx (by injection h))]

set_option maxRecDepth 100000 in
theorem bool_inv (v : Value) (y : DataW Unit × List MemPlace) (h : RB v = some y) : ∃ c, v = .bool c := by
  unfold RB plainElem at h
  rw [Try.underlying4] at h
  cases v <;> simp at h ⊢

/-- the step of a range over such a map, for the walk -/
theorem next_map {ops : Array Oper} {rest : List Oper} {o : Oper} {a : Act} {Q : Exit → Act → World → Prop} (hgd : o.guard = none) (it : Operand) (hop : o.op = Op.next it false) (Wb : World) (l : Array Obj) (d g r n : Nat) (D : DataW Unit) (f : Int → Option Bool) (left : Lit → Bool) (cnt : Nat)
    (hD : Holds D f) (hrb : Wb.heap.size ≤ r) (hit : a.eval it = .pointer (some ⟨r, 0, none⟩)) (h : (Wb.later l d).ranges Try.prog 3 RB g r n D left cnt)
    (hDone : (∀ kl, left kl = false) → wpList Try.prog ops Q rest (a.put o.dst (.tuple #[.bool false])) (Wb.later l d))
    (hMore : ∀ (x : Int) (c : Bool) (cnt' : Nat) (l' : Array Obj) (d' : Nat), f x = some c → left (.int .i64 x) = true → (Wb.later l' d').ranges Try.prog 3 RB g r n D (fun z => left z && !z.sameKey (.int .i64 x)) cnt' → cnt' < cnt →
      (Instr.entry (.pointer (some ⟨r, 0, none⟩))).run Try.prog (Wb.later l' d') = .ok (.tuple #[.int .i64 x, .bool c]) (Wb.later l' d') → wpList Try.prog ops Q rest (a.put o.dst (.tuple #[.bool true, .int .i64 x, .bool c])) (Wb.later l' d')) :
    wpList Try.prog ops Q (o :: rest) a (Wb.later l d) := by
  refine wpList_next_ranges _ hgd it hop 3 law RB (Value.int .i64) Value.bool (fun key kl hkey => by obtain ⟨x, rfl, _⟩ := Maps.keyOf_int_inv Try.underlying3 hkey; exact ⟨x, rfl⟩) bool_inv g r n D left cnt hit h (fun _ hl => hDone hl) ?_
  intro x c kl y w' cnt' hk hlk hy hat hrg hlt hgr hsz hen
  obtain ⟨rfl, hx⟩ := came hD hk hy hat
  obtain ⟨l', d', rfl⟩ := later_of (below_grown (below_later (Below.refl _ _) (Nat.le_refl _) l d) hgr (by intro g hg; injection hg with hg; omega) : Below Wb.heap.size Wb w')
  exact hMore x c cnt' l' d' hx hlk hrg hlt hen

theorem ranges_swap {W0 W1 : World} {l : Array Obj} {d d' g r n cnt : Nat} {P : Program} {k : TypeId} {R : Value → Option (DataW Unit × List MemPlace)} {D : DataW Unit} {left : Lit → Bool} (h : (W0.later l d).ranges P k R g r n D left cnt) (hg : W0.heap.size ≤ g) (hr : W0.heap.size ≤ r) (hs : W1.heap.size = W0.heap.size) :
    (W1.later l d').ranges P k R g r n D left cnt := by
  have e : ∀ i, W0.heap.size ≤ i → (W1.later l d').heap[i]? = (W0.later l d).heap[i]? := fun i hi => by
    simp only [World.later, Array.getElem?_append]
    rw [if_neg (by omega), if_neg (by omega), hs]
  obtain ⟨es, clock, since, seen, c0, hb, F, hsz, hD, hrr, rest⟩ := h
  exact ⟨es, clock, since, seen, c0, by rw [e g hg]; exact hb, F, hsz, hD, by rw [e r hr]; exact hrr, rest⟩

def Inv (a b c : Bool) (f : Int → Option Bool) (D : DataW Unit) (W0 : World) (g r : Nat) (wr : World) : Prop :=
  ∃ (left : Lit → Bool) (cnt d : Nat) (l : Array Obj), wr = (W0.alloc (.cells #[.bool (bitB f left 0 a), .bool (bitB f left 1 b), .bool (bitB f left 2 c)] 89)).later l d ∧ wr.ranges Try.prog 3 RB g r 2 D left cnt

set_option maxHeartbeats 4000000 in
set_option maxRecDepth 100000 in
theorem touched_any (a b c : Bool) (n k : Int) (w : World) (h : (n = 1 ∧ k = 0) ∨ (n = 2 ∧ k = 0) ∨ (n = 2 ∧ k = 1) ∨ (n = 3 ∧ k = 0) ∨ (n = 3 ∧ k = 1) ∨ (n = 3 ∧ k = 2) ∨ (n = 4 ∧ k = 0) ∨ (n = 4 ∧ k = 1) ∨ (n = 4 ∧ k = 2) ∨ (n = 4 ∧ k = 3)) :
    Calls Try.prog 37 #[.agg #[.bool a, .bool b, .bool c], .int .i64 n, .int .i64 k] w (Ret (.agg #[.bool (bitE (roadF n k) 0 a), .bool (bitE (roadF n k) 1 b), .bool (bitE (roadF n k) 2 c)]) w) := by
  have RC := fun w => road_any n k w h
  have HD := road_holds n k
  have HK := roadF_key n k
  have HR := Lib.hid RC
  have HH := Lib.hid HD
  have HKK := Lib.hid HK
  clear RC HD HK h
  go_enter Try.func37, Try.ntmps37
  go_wp2_with (first
    | (go_at_call 56; refine (bits_any _ _ _ _).mono ?_; rintro e w1 ⟨rfl, hb1⟩; obtain ⟨l1, d1, rfl⟩ := later_of hb1; clear hb1)
    | (go_at_call 58; refine (HR.out _).mono ?_; rintro e w1 ⟨g, rfl, hown, hg, hb1⟩; obtain ⟨l2, d2, rfl⟩ := later_of hb1; have HO := Lib.hid hown; have HG := Lib.hid hg; clear hb1 hown hg)
    | (at_range; refine wpList_range_own _ rfl _ 92 rfl 3 4 law Try.underlying92 RB g 2 _ rfl HO.out ?_; intro w0 hrg0 hg0 hs0))
  go_frame
  have hb0 := below_grown (by repeat (first | exact Below.refl _ _ | apply bs_later | apply bs_alloc | apply bs_drew | apply bs_drewN)) hg0 (by simp) (W0 := (((w.alloc (.cells #[.bool a, .bool b, .bool c] 54)).alloc (.cells #[.bool false, .bool false, .bool false] 54)).later l1 d1).alloc (.cells #[.bool a, .bool b, .bool c] 89))
  obtain ⟨l3, d3, rfl⟩ := later_of hb0
  have hsz : (((((w.alloc (.cells #[.bool a, .bool b, .bool c] 54)).alloc (.cells #[.bool false, .bool false, .bool false] 54)).later l1 d1).alloc (.cells #[.bool a, .bool b, .bool c] 89)).later l2 d2).heap.size = w.heap.size + 1 + 1 + l1.size + 1 + l2.size := by simp
  have hzz : (((w.alloc (.cells #[.bool a, .bool b, .bool c] 54)).alloc (.cells #[.bool false, .bool false, .bool false] 54)).later l1 d1).heap.size = w.heap.size + 1 + 1 + l1.size := by simp
  rw [hsz] at hrg0 ⊢
  obtain ⟨r, hr⟩ : ∃ r, w.heap.size + 1 + 1 + l1.size + 1 + l2.size = r := ⟨_, rfl⟩
  rw [hr] at hrg0 ⊢
  have hgb : w.heap.size + 1 + 1 + l1.size + 1 ≤ g := by have := HG.out; simp at this; omega
  have hrb : w.heap.size + 1 + 1 + l1.size + 1 ≤ r := by omega
  have HRG := Lib.hid hrg0
  have HW := Lib.hid hzz
  have HF := HH.out
  generalize roadD n k = D at *
  generalize roadF n k = f at *
  have HSZ : Hid True := trivial
  clear hrg0 hsz hb0 hg0 hs0 hr hzz HO HG HF
  go_loopw [8] (fun _ wr => Inv a b c f D (((w.alloc (.cells #[.bool a, .bool b, .bool c] 54)).alloc (.cells #[.bool false, .bool false, .bool false] 54)).later l1 d1) g r wr) (fun _ wr => wr.rangeLeft g r)
  case atStart => exact ⟨Maps.has D, Maps.size D, d3, l3, by rw [bitB_start HH.out, bitB_start HH.out, bitB_start HH.out], HRG.out⟩
  case round =>
    clear HRG
    obtain ⟨left, cnt, d, l, rfl, hrg⟩ := hrel
    have HRG := Lib.hid hrg
    clear hrg
    go_wp2_with (first
      | (at_next; refine next_map rfl _ rfl ((((w.alloc (.cells #[.bool a, .bool b, .bool c] 54)).alloc (.cells #[.bool false, .bool false, .bool false] 54)).later l1 d1).alloc (.cells #[.bool (bitB f left 0 a), .bool (bitB f left 1 b), .bool (bitB f left 2 c)] 89)) l d g r 2 D f left cnt HH.out (by simp; omega) rfl HRG.out (fun hl0 => ?_) (fun x y cnt1 l4 d4 hx hlk hrg1 hlt hen => ?_); all_goals (first | (have HX := Lib.hid hx; have HRG1 := Lib.hid hrg1; clear hx hlk hrg1; obtain rfl | rfl | rfl := HKK.out x (by rw [HX.out]; rfl)) | (have HL0 := Lib.hid hl0; clear hl0))))
    · go_returns
      refine ⟨by rw [bitB_end HL0.out, bitB_end HL0.out, bitB_end HL0.out], by repeat (first | exact Below.refl _ _ | apply bs_later | apply bs_alloc | apply bs_drew | apply bs_drewN)⟩
    · have HRG2 := ranges_swap (d' := d4) (W1 := (((w.alloc (.cells #[.bool a, .bool b, .bool c] 54)).alloc (.cells #[.bool false, .bool false, .bool false] 54)).later l1 d1).alloc (.cells #[.bool (!y), .bool (bitB f left 1 b), .bool (bitB f left 2 c)] 89)) HRG1.out (by simp; omega) (by simp; omega) (by simp)
      have HRG3 := Lib.hid HRG2
      clear HRG2
      go_roundw
      case rel => exact ⟨_, cnt1, d4, l4, by rw [bitB_same HX.out, bitB_other (by decide), bitB_other (by decide)], HRG3.out⟩
      case measure => rw [HRG3.out.left_eq, HRG.out.left_eq]; exact hlt
    · have HRG2 := ranges_swap (d' := d4) (W1 := (((w.alloc (.cells #[.bool a, .bool b, .bool c] 54)).alloc (.cells #[.bool false, .bool false, .bool false] 54)).later l1 d1).alloc (.cells #[.bool (bitB f left 0 a), .bool (!y), .bool (bitB f left 2 c)] 89)) HRG1.out (by simp; omega) (by simp; omega) (by simp)
      have HRG3 := Lib.hid HRG2
      clear HRG2
      go_roundw
      case rel => exact ⟨_, cnt1, d4, l4, by rw [bitB_same HX.out, bitB_other (by decide), bitB_other (by decide)], HRG3.out⟩
      case measure => rw [HRG3.out.left_eq, HRG.out.left_eq]; exact hlt
    · have HRG2 := ranges_swap (d' := d4) (W1 := (((w.alloc (.cells #[.bool a, .bool b, .bool c] 54)).alloc (.cells #[.bool false, .bool false, .bool false] 54)).later l1 d1).alloc (.cells #[.bool (bitB f left 0 a), .bool (bitB f left 1 b), .bool (!y)] 89)) HRG1.out (by simp; omega) (by simp; omega) (by simp)
      have HRG3 := Lib.hid HRG2
      clear HRG2
      go_roundw
      case rel => exact ⟨_, cnt1, d4, l4, by rw [bitB_same HX.out, bitB_other (by decide), bitB_other (by decide)], HRG3.out⟩
      case measure => rw [HRG3.out.left_eq, HRG.out.left_eq]; exact hlt
end Go.Proofs.Ytffhfpdmfegcpaa.road
