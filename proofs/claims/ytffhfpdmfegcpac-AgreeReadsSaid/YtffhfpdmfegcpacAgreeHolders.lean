/- The contract of agree.Holders. -/
import Derived.Test.YtffhfpdmfegcpacAgreeAsk
namespace Go.Proofs.Ytffhfpdmfegcpac.agree
open Go.ChangeShapes Go.WideShapes Go.ChangeAt Go.RowKit
open Go.Joins (ownsRow_le)
open Go.Proofs.Ytffhfpdmfegcpac.base Go.Proofs.Ytffhfpdmfegcpac.flat Go.Proofs.Ytffhfpdmfegcpac.table Go.Proofs.Ytffhfpdmfegcpac.prog Go.Proofs.Ytffhfpdmfegcpac.same Go.Proofs.Ytffhfpdmfegcpac.addr Go.Proofs.Ytffhfpdmfegcpac.bank Go.Proofs.Ytffhfpdmfegcpac.ways Go.Proofs.Ytffhfpdmfegcpac.state Go.Proofs.Ytffhfpdmfegcpac.turn Go.Proofs.Ytffhfpdmfegcpac.bankMore Go.Proofs.Ytffhfpdmfegcpac.memEq
set_option linter.unusedVariables false
set_option linter.unusedSimpArgs false

def nodesL (l : List H7) : List Int := l.map fun y => (y.node : Int)
theorem nodesL_len (l : List H7) : (nodesL l).length = l.length := by simp [nodesL]
def ownerL (l : List H7) : Int := l.foldl (fun o y => if amongB y.x.s [3, 4] = true then (y.node : Int) else o) (-1)
theorem ownerL_snoc (l : List H7) (x : H7) : ownerL (l ++ [x]) = if amongB x.x.s [3, 4] = true then (x.node : Int) else ownerL l := by simp [ownerL, List.foldl_append]
theorem nodesL_snoc (l : List H7) (x : H7) : nodesL (l ++ [x]) = nodesL l ++ [(x.node : Int)] := by simp [nodesL]
def iV (l : List Int) : List Value := l.map (Value.int .i64)
theorem iV_snoc (l : List Int) (x : Int) : iV (l ++ [x]) = iV l ++ [.int .i64 x] := by simp [iV]
theorem info_intA : (Try.prog.info? 3).map (fun i => (i.zero, i.size, i.bytes)) = some (some (.int .i64 0), 1, 8) := by kernel_rfl
theorem one_newA {W : World} {v : Value} {t : TypeId} {g : Nat} (hg : g = W.heap.size) : ∀ (j : Nat) (u : Value), [v][j]? = some u → (W.alloc (.cells #[v] t)).cell? ((⟨g, 0, none⟩ : Addr).add j) = some u := by
  intro j u h
  subst hg
  cases j with
  | zero => simp at h; subst h; simp [Addr.add]
  | succ j => simp at h
/-- the nodes, and the owner -/
def HoldersPost (l : List H7) (w : World) (e : Ending) (w' : World) : Prop := ∃ a c, e = .returned (.tuple #[.slice a l.length c, .int .i64 (ownerL l), .int .i64 0]) ∧ IntsAt .i64 w' a (nodesL l) ∧ Below w.heap.size w w'

set_option maxHeartbeats 4000000 in
set_option maxRecDepth 100000 in
theorem holdersW_bad (cn cs cy cb : Int) (xs : List Int) (hxl : xs.length = 64) (wx : AllU xs) (hs : List (List R4)) (hok : ∀ h ∈ hs, ∀ r ∈ h, r.Ok) (ca : Option Addr) (n cc : Nat) (w : World) (hn : hs.length = n) (hm : n ≤ maxLen) (hH : CachesAt w ca hs) (L : Int) (hE : ¬ askE cn cs cy cb hs xs L = 0) :
    Calls Try.prog 19 #[.agg #[.int .i64 cn, .int .i64 cs, .int .i64 cy, .int .i64 cb], .agg (worldA ca n cc xs), .int .i64 L] w (Ret (.tuple #[.slice none 0 0, .int .i64 0, .int .i64 (askE cn cs cy cb hs xs L)]) w) := by
  have PF := fun w h => asked_bad cn cs cy cb xs hxl wx hs hok ca n cc w hn hm h L hE
  have PF' : ∀ w, CachesAt w ca hs → Calls Try.prog 52 #[.agg #[.int .i64 cn, .int .i64 cs, .int .i64 cy, .int .i64 cb], .agg (worldL ca n cc xs).toArray, .int .i64 L] w (Ret (.tuple #[.slice none 0 0, .int .i64 (askE cn cs cy cb hs xs L)]) w) := PF
  have HH := Lib.hid hH
  have hlw := worldL_len (a := ca) (n := n) (c := cc) hxl
  change Calls _ _ #[_, .agg (worldL ca n cc xs).toArray, _] _ _
  clear PF hH hok hn wx hxl
  generalize worldL ca n cc xs = CS at *
  generalize askE cn cs cy cb hs xs L = E at *
  have hE1 : (E != 0) = true := by simpa using hE
  have HPA := Lib.hid PF'
  have HLW := Lib.hid hlw
  clear PF' hlw hE
  -- F begin
  go_enter Try.func19, Try.ntmps19
  go_wp2_with (first
    | ((with_reducible refine at_wp ?_); refine wpList_load_r rfl 57 _ rfl _ rfl 65 _ Try.underlying57 rfl (by kernel_rfl) (by (simp [go_sem, HLW.out]; done)) ?_; intro C hC; simp [go_sem] at hC; subst hC)
    | (go_at_call 52; refine (HPA.out _ (CachesAt.below HH.out (by repeat (first | exact Below.refl _ _ | apply bs_later | apply bs_alloc | apply bs_drew | apply bs_drewN)))).mono ?_; rintro e w1 ⟨rfl, hb1⟩; obtain ⟨l1, d1, rfl⟩ := later_of hb1; clear hb1))
  go_ret3
  exact ⟨rfl, (by repeat (first | exact Below.refl _ _ | apply bs_later | apply bs_alloc | apply bs_drew | apply bs_drewN))⟩
  -- F end

def RelO (l : List H7) (g : Nat) (w0 : World) (v ow i : Value) (wr : World) : Prop :=
  ∃ (k : Nat) (o : Array Obj) (d : Nat), k ≤ l.length ∧ ow = .int .i64 (ownerL (l.take k)) ∧ i = .int .i64 k ∧ wr = w0.later o d ∧ (w0.later o d).ownsRow g 3 1 v k (iV (nodesL (l.take k)))

set_option maxHeartbeats 4000000 in
set_option maxRecDepth 100000 in
theorem holdersW_ok (cn cs cy cb : Int) (xs : List Int) (hxl : xs.length = 64) (wx : AllU xs) (hs : List (List R4)) (hok : ∀ h ∈ hs, ∀ r ∈ h, r.Ok) (ca : Option Addr) (n cc : Nat) (w : World) (hn : hs.length = n) (hm : n ≤ maxLen) (hH : CachesAt w ca hs) (L : Nat) (hE : askE cn cs cy cb hs xs L = 0) :
    Calls Try.prog 19 #[.agg #[.int .i64 cn, .int .i64 cs, .int .i64 cy, .int .i64 cb], .agg (worldA ca n cc xs), .int .i64 L] w (HoldersPost (holdL cs hs L) w) := by
  have PF := fun w h => asked_ok cn cs cy cb xs hxl wx hs hok ca n cc w hn hm h L hE
  have PF' : ∀ w, CachesAt w ca hs → Calls Try.prog 52 #[.agg #[.int .i64 cn, .int .i64 cs, .int .i64 cy, .int .i64 cb], .agg (worldL ca n cc xs).toArray, .int .i64 L] w (AskPost (holdL cs hs L) w) := PF
  obtain ⟨hA, hL⟩ := askE_ok hE
  obtain ⟨hF, _⟩ := agreeP_ok hA
  obtain ⟨hcfg, hlen, hall⟩ := formE_ok hF
  have hcn := hcfg.2.1
  have hl8 : (holdL cs hs L).length ≤ 8 := Nat.le_trans (holdL_len cs L hs) (by omega)
  have HH := Lib.hid hH
  have hlw := worldL_len (a := ca) (n := n) (c := cc) hxl
  change Calls _ _ #[_, .agg (worldL ca n cc xs).toArray, _] _ _
  clear PF hH hok hn wx hE hA hF hcfg hlen hall hcn hL
  generalize worldL ca n cc xs = CS at *
  generalize holdL cs hs L = l at *
  have HPA := Lib.hid PF'
  have HLW := Lib.hid hlw
  obtain ⟨N, hN⟩ : ∃ N, N = l.length := ⟨_, rfl⟩
  have HN := Lib.hid hN
  obtain ⟨i4, ji, jz0, jz1, jz2⟩ := info_parts info_intA
  clear PF' hlw hxl
  -- G begin
  go_enter Try.func19, Try.ntmps19
  go_wp2_with (first
    | ((with_reducible refine at_wp ?_); refine wpList_load_r rfl 57 _ rfl _ rfl 65 _ Try.underlying57 rfl (by kernel_rfl) (by (simp [go_sem, HLW.out]; done)) ?_; intro C hC; simp [go_sem] at hC; subst hC)
    | (go_at_call 52; refine (HPA.out _ (CachesAt.below HH.out (by repeat (first | exact Below.refl _ _ | apply bs_later | apply bs_alloc | apply bs_drew | apply bs_drewN)))).mono ?_; rintro e w1 ⟨va, vc, rfl, hown, hb1⟩; have HHE := Lib.hid (own_held hown); obtain ⟨l1, d1, rfl⟩ := later_of hb1; clear hb1 hown))
  obtain ⟨W1, hW1⟩ : ∃ W1, W1 = (((w.alloc (.cells #[.int .i64 cn, .int .i64 cs, .int .i64 cy, .int .i64 cb] 54)).alloc (.cells CS.toArray 57)).later l1 d1) := ⟨_, rfl⟩
  have HHW : Hid (HeldAt W1 va l) := Lib.hid (by rw [hW1]; exact HHE.out)
  have HBW : Hid (Below w.heap.size w W1) := Lib.hid (by rw [hW1]; exact (by repeat (first | exact Below.refl _ _ | apply bs_later | apply bs_alloc | apply bs_drew | apply bs_drewN)))
  have HSW : Hid (w.heap.size ≤ W1.heap.size) := Lib.hid (by rw [hW1]; simp; omega)
  rw [← hW1, ← hN]
  rw [← hN] at hl8
  clear hW1 hN HHE
  go_loopw [11, 12, 27] (RelO l W1.heap.size W1) (fun _ _ i _ => N - (intOf i).toNat)
  case atStart => exact ⟨0, #[], _, Nat.zero_le _, rfl, rfl, later_zero _, World.ownsRow_nil _ _ _ _⟩
  case round =>
    obtain ⟨k, o, d, hk, rfl, rfl, rfl, hown⟩ := hrel
    obtain ⟨sa, sc, hv⟩ := own_form hown
    subst hv
    by_cases hlt : k < N
    · obtain ⟨x, hx⟩ := get_some (xs := l) (k := k) (by rw [← HN.out]; exact hlt)
      obtain ⟨b, off, rfl⟩ := HeldAt.form HHW.out hx
      obtain ⟨e0, e1, e2, e3, e4, e5, e6⟩ := HeldAt.at HHW.out hx
      have hinb : inB W1 b := table.lt_of_cell e0
      have HO5 := Lib.hid hown
      have HJ : Hid (k + 1 ≤ l.length) := Lib.hid (by rw [← HN.out]; exact hlt)
      have HLN : Hid (k ≤ 8) := Lib.hid (by omega)
      have hkI : (k : Int) < N := by omega
      have HTK : Hid (l.take (k + 1) = l.take k ++ [x]) := Lib.hid (take_snocH hx)
      have HOS := Lib.hid (ownerL_snoc (l.take k) x)
      have HNS := Lib.hid (nodesL_snoc (l.take k) x)
      have PO := fun w => owns_any x.x.s w
      obtain ⟨xs0, hxs0⟩ : ∃ s, s = x.x.s := ⟨_, rfl⟩
      rw [← hxs0] at e1 PO HOS
      obtain ⟨oo, hoo⟩ : ∃ oo, oo = amongB xs0 [3, 4] := ⟨_, rfl⟩
      rw [← hoo] at PO HOS
      have HPO := Lib.hid PO
      generalize x.x.l = x1 at *
      generalize x.x.a = xa at *
      generalize x.x.b = xb at *
      generalize x.x.c = xc at *
      generalize x.x.d = xd at *
      generalize (x.node : Int) = nd at *
      generalize ownerL (l.take k) = ow at *
      clear hown hx hk hlt hxs0 PO hoo
      -- H begin
      cases oo
      · go_wp2_with (first
          | (at_builtin; refine wpList_append_own _ rfl _ _ 30 rfl W1.heap.size 3 i4 _ 1 8 Try.underlying30 ji jz0 jz1 jz2 rfl (by decide) _ _ _ rfl (ownsRow_le ((HO5.out.alloc _).alloc _) (by first | (simp; done) | (simp; omega))) ⟨_, 0, none⟩ 1 1 [.int .i64 nd] rfl rfl (one_newA (by simp)) (fun u hu => by simp at hu; subst hu; rfl) (by have := HLN.out; unfold maxLen; omega) (by have := HLN.out; omega) (by first | (simp; done) | (simp; omega)) ?_; intro v' w1 hown' hgrow _; have hne : some (W1.heap.size + o.size) ≠ (Value.slice sa k sc).ownBlock := (fun e => by have := (HO5.out.lt _ e.symm).2; rw [size_later] at this; omega); have q0 : w1.cell? ⟨W1.heap.size + o.size, 0, none⟩ = some (.int .i64 nd) := (by rw [World.cell?_of_block (hgrow.block (W1.heap.size + o.size) (by simp; omega) hne)]; simp [go_sem]); have q1 : w1.cell? ⟨W1.heap.size + o.size, 1, none⟩ = some (.int .i64 xs0) := (by rw [World.cell?_of_block (hgrow.block (W1.heap.size + o.size) (by simp; omega) hne)]; simp [go_sem]); have hb := below_grown (W0 := W1) (by repeat (first | exact Below.refl _ _ | apply bs_later | apply bs_alloc | apply bs_drew | apply bs_drewN)) hgrow (fun g hg => by have := (HO5.out.lt g hg).1; exact this); obtain ⟨l3, d3, rfl⟩ := later_of hb; obtain ⟨va', vc', hv'⟩ := own_form hown'; subst hv'; have HO' := Lib.hid hown'; have hinx := table.lt_of_cell q0; clear hown' hgrow hb hne)
          | (go_at_call 54; refine (HPO.out _).mono ?_; rintro e w1 ⟨rfl, hb1⟩; obtain ⟨l4, d4, rfl⟩ := later_of hb1; have q2 : ((W1.later l3 d3).later l4 d4).cell? ⟨W1.heap.size + o.size, 0, none⟩ = some (.int .i64 nd) := (by rw [hb1.cell (p := ⟨_, 0, none⟩) hinx]; exact q0); clear hb1))
        go_roundw
        case rel => exact ⟨k + 1, _, _, HJ.out, by rw [HTK.out, HOS.out]; rfl, by go_num, later_later _ _ _ _ _, by rw [HTK.out, HNS.out, iV_snoc]; exact own_more HO'.out l4 d4⟩
        case measure => simp [intOf]; omega
      · go_wp2_with (first
          | (at_builtin; refine wpList_append_own _ rfl _ _ 30 rfl W1.heap.size 3 i4 _ 1 8 Try.underlying30 ji jz0 jz1 jz2 rfl (by decide) _ _ _ rfl (ownsRow_le ((HO5.out.alloc _).alloc _) (by first | (simp; done) | (simp; omega))) ⟨_, 0, none⟩ 1 1 [.int .i64 nd] rfl rfl (one_newA (by simp)) (fun u hu => by simp at hu; subst hu; rfl) (by have := HLN.out; unfold maxLen; omega) (by have := HLN.out; omega) (by first | (simp; done) | (simp; omega)) ?_; intro v' w1 hown' hgrow _; have hne : some (W1.heap.size + o.size) ≠ (Value.slice sa k sc).ownBlock := (fun e => by have := (HO5.out.lt _ e.symm).2; rw [size_later] at this; omega); have q0 : w1.cell? ⟨W1.heap.size + o.size, 0, none⟩ = some (.int .i64 nd) := (by rw [World.cell?_of_block (hgrow.block (W1.heap.size + o.size) (by simp; omega) hne)]; simp [go_sem]); have q1 : w1.cell? ⟨W1.heap.size + o.size, 1, none⟩ = some (.int .i64 xs0) := (by rw [World.cell?_of_block (hgrow.block (W1.heap.size + o.size) (by simp; omega) hne)]; simp [go_sem]); have hb := below_grown (W0 := W1) (by repeat (first | exact Below.refl _ _ | apply bs_later | apply bs_alloc | apply bs_drew | apply bs_drewN)) hgrow (fun g hg => by have := (HO5.out.lt g hg).1; exact this); obtain ⟨l3, d3, rfl⟩ := later_of hb; obtain ⟨va', vc', hv'⟩ := own_form hown'; subst hv'; have HO' := Lib.hid hown'; have hinx := table.lt_of_cell q0; clear hown' hgrow hb hne)
          | (go_at_call 54; refine (HPO.out _).mono ?_; rintro e w1 ⟨rfl, hb1⟩; obtain ⟨l4, d4, rfl⟩ := later_of hb1; have q2 : ((W1.later l3 d3).later l4 d4).cell? ⟨W1.heap.size + o.size, 0, none⟩ = some (.int .i64 nd) := (by rw [hb1.cell (p := ⟨_, 0, none⟩) hinx]; exact q0); clear hb1))
        go_roundw
        case rel => exact ⟨k + 1, _, _, HJ.out, by rw [HTK.out, HOS.out]; rfl, by go_num, later_later _ _ _ _ _, by rw [HTK.out, HNS.out, iV_snoc]; exact own_more HO'.out l4 d4⟩
        case measure => simp [intOf]; omega
      -- H end
    · obtain rfl : k = N := by have := HN.out; omega
      rw [List.take_of_length_le (by rw [← HN.out]; exact Nat.le_refl _)] at hown ⊢
      have HO := Lib.hid hown
      clear hown
      go_wp2
      go_ret3
      exact ⟨sa, sc, by rw [← HN.out]; rfl, (own_ints (xs := nodesL l) HO.out).2, range.below_trans HBW.out (by repeat (first | exact Below.refl _ _ | apply bs_later | apply bs_alloc | apply bs_drew | apply bs_drewN))⟩
  -- G end
end Go.Proofs.Ytffhfpdmfegcpac.agree
