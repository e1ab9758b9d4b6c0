/- Every function of package prog returns what the reference returns: for all arguments. -/
import Derived.Test.YtffhfpdmfegcpabProgMerges
import Derived.Test.YtffhfpdmfegcpabProgFault
import Derived.Test.YtffhfpdmfegcpabDelDeed
import Derived.Test.YtffhfpdmfegcpabEqInt
import Derived.Test.YtffhfpdmfegcpabRefDeed
import Derived.Deep.DeepCutAuto
import Derived.Deep.CutBlock
import Derived.StillTailTactics
import Derived.Deep.RegionLaw
import Derived.Deep.AppendLies
namespace Go.Proofs.Ytffhfpdmfegcpab.progTells
open Go.ChangeShapes Go.WideShapes Go.ChangeAt Go.RowKit
open Go.Proofs.Ytffhfpdmfegcpab.base Go.Proofs.Ytffhfpdmfegcpab.knob Go.Proofs.Ytffhfpdmfegcpab.flat Go.Proofs.Ytffhfpdmfegcpab.same Go.Proofs.Ytffhfpdmfegcpab.table Go.Proofs.Ytffhfpdmfegcpab.addr Go.Proofs.Ytffhfpdmfegcpab.atomic Go.Proofs.Ytffhfpdmfegcpab.told Go.Proofs.Ytffhfpdmfegcpab.prog Go.Proofs.Ytffhfpdmfegcpab.progMerges
set_option linter.unusedVariables false
set_option linter.unusedSimpArgs false

/-- what Next answers: the cases -/
inductive NextCase (ps : List (List D4)) (ats : List Int) (pn tn : Nat) (node : Int) : D4 → Bool → Int → Prop
  | low : node < 0 → NextCase ps ats pn tn node ⟨0, 0, 0, 0⟩ false 4
  | high : 0 ≤ node → (pn : Int) ≤ node → NextCase ps ats pn tn node ⟨0, 0, 0, 0⟩ false 4
  | odd : 0 ≤ node → node < pn → ¬ tn = pn → NextCase ps ats pn tn node ⟨0, 0, 0, 0⟩ false 4
  | neg (K : Nat) (t : Int) : node = (K : Int) → K < pn → tn = pn → ats[K]? = some t → t < 0 → NextCase ps ats pn tn node ⟨0, 0, 0, 0⟩ false 4
  | done (K : Nat) (t : Int) (P : List D4) : node = (K : Int) → K < pn → tn = pn → ats[K]? = some t → 0 ≤ t → ps[K]? = some P → (P.length : Int) ≤ t → NextCase ps ats pn tn node ⟨0, 0, 0, 0⟩ false 0
  | hit (K t : Nat) (P : List D4) (y : D4) : node = (K : Int) → K < pn → tn = pn → ats[K]? = some (t : Int) → ps[K]? = some P → P[t]? = some y → NextCase ps ats pn tn node y true 0
theorem next_res (ps : List (List D4)) (ats : List Int) (pa ta : Option Addr) (pn pc tn tc : Nat) (node : Int) (hpn : ps.length = pn) (hpm : pn ≤ maxLen) (htn : ats.length = tn) (htm : tn ≤ maxLen) :
    ∃ (y : D4) (is : Bool) (e : Int), NextCase ps ats pn tn node y is e ∧ ∀ w, ListsAt DeedsAt w pa ps → IntsAt .i64 w ta ats → Calls Try.prog 44 #[.slice pa pn pc, .slice ta tn tc, .int .i64 node] w (Ret (.tuple #[.agg #[.int .i64 y.n, .int .i64 y.k, .int .i64 y.a, .int .u64 y.v], .bool is, .int .i64 e]) w) := by
  by_cases h0 : node < 0
  · exact ⟨_, _, _, .low h0, fun w _ _ => next_out node hpm htm (.inl h0)⟩
  · by_cases h1 : (pn : Int) ≤ node
    · exact ⟨_, _, _, .high (by omega) h1, fun w _ _ => next_out node hpm htm (.inr (.inl ⟨by omega, h1⟩))⟩
    · by_cases h2 : tn = pn
      · obtain ⟨K, rfl⟩ := Int.eq_ofNat_of_zero_le (by omega : 0 ≤ node)
        subst h2
        obtain ⟨t, ht⟩ := get_some (xs := ats) (k := K) (by omega)
        by_cases h3 : t < 0
        · exact ⟨_, _, _, .neg K t rfl (by omega) rfl ht h3, fun w hP hA => next_neg hpm hpn htn hA (by omega) ht h3⟩
        · obtain ⟨P, hP⟩ := get_some (xs := ps) (k := K) (by omega)
          by_cases h4 : (P.length : Int) ≤ t
          · exact ⟨_, _, _, .done K t P rfl (by omega) rfl ht (by omega) hP h4, fun w hL hA => next_end hpm hpn hL htn hA hP ht (by omega) h4⟩
          · obtain ⟨T, rfl⟩ := Int.eq_ofNat_of_zero_le (by omega : 0 ≤ t)
            obtain ⟨y, hy⟩ := get_some (xs := P) (k := T) (by omega)
            exact ⟨y, _, _, .hit K T P y rfl (by omega) rfl ht hP hy, fun w hL hA => next_hit hpm hpn hL htn hA hP ht hy⟩
      · exact ⟨_, _, _, .odd (by omega) (by omega) h2, fun w _ _ => next_out node hpm htm (.inr (.inr ⟨by omega, by omega, h2⟩))⟩
def MRes (ps : List (List D4)) (picks : List Int) (E1 : Int) (ao : Option Addr) (lo : Nat) (aa : Option Addr) (la : Nat) (w : World) : Prop :=
  (E1 = 0 ∧ lo = (mergeS ps picks).out.length ∧ la = ps.length ∧ DeedsAt w ao (mergeS ps picks).out ∧ IntsAt .i64 w aa (natI (mergeS ps picks).at_)) ∨ (¬ E1 = 0 ∧ lo = 0 ∧ la = 0)
def SRes (n : Nat) (ls : List D4) (E2 : Int) (so : Option Addr) (l2 : Nat) (w : World) : Prop :=
  (E2 = 0 ∧ l2 = n ∧ ListsAt DeedsAt w so (splitL n ls)) ∨ (¬ E2 = 0 ∧ l2 = 0)
theorem MRes.below {ps : List (List D4)} {picks : List Int} {E1 : Int} {ao : Option Addr} {lo : Nat} {aa : Option Addr} {la : Nat} {w w' : World} (h : MRes ps picks E1 ao lo aa la w) (hb : Below w.heap.size w w') : MRes ps picks E1 ao lo aa la w' :=
  h.imp (fun ⟨h1, h2, h3, h4, h5⟩ => ⟨h1, h2, h3, DeedsAt.below h4 hb, IntsAt.below h5 hb⟩) id
theorem SRes.below {n : Nat} {ls : List D4} {E2 : Int} {so : Option Addr} {l2 : Nat} {w w' : World} (h : SRes n ls E2 so l2 w) (hb : Below w.heap.size w w') : SRes n ls E2 so l2 w' :=
  h.imp (fun ⟨h1, h2, h3⟩ => ⟨h1, h2, lists_below h3 hb⟩) id
theorem merge_res (cn cs cy cb : Int) (ps : List (List D4)) (pa : Option Addr) (pn pc : Nat) (picks : List Int) (qa : Option Addr) (qn qc : Nat) (hpn : ps.length = pn) (hpm : pn ≤ maxLen) (hqn : picks.length = qn) (hqm : qn ≤ maxLen) (w : World) (hP : ListsAt DeedsAt w pa ps) (hQ : IntsAt .i64 w qa picks) :
    Calls Try.prog 33 #[.agg #[.int .i64 cn, .int .i64 cs, .int .i64 cy, .int .i64 cb], .slice pa pn pc, .slice qa qn qc] w fun e w' => ∃ ao lo co aa la ca, e = .returned (.tuple #[.slice ao lo co, .slice aa la ca, .int .i64 (mergeE cn cs cy cb ps picks)]) ∧ (lo ≤ 200 ∧ lo ≤ co ∧ co ≤ maxLen ∧ la ≤ ca ∧ ca ≤ maxLen) ∧ MRes ps picks (mergeE cn cs cy cb ps picks) ao lo aa la w' ∧ Below w.heap.size w w' :=
  (merge_any cn cs cy cb ps pa pn pc picks qa qn qc w hpn hpm hP hqn hqm hQ).mono fun e w' ⟨hb, h⟩ => by
    rcases h with ⟨h, ao, co, aa, ca, h1, h2, h3, h4, h5, h6, h7⟩ | ⟨h, h1⟩
    · obtain ⟨_, _, hq, hso, _, _⟩ := merge_plain h
      exact ⟨ao, _, co, aa, _, ca, by rw [h1, h], ⟨Nat.le_trans hso.out hq, h2, h3, h4, h5⟩, .inl ⟨h, rfl, rfl, h6, h7⟩, hb⟩
    · exact ⟨none, 0, 0, none, 0, 0, h1, by decide, .inr ⟨h, rfl, rfl⟩, hb⟩
theorem split_res (cn cs cy cb : Int) (ls : List D4) (a : Option Addr) (m c : Nat) (hm : ls.length = m) (hm2 : m ≤ maxLen) (w : World) (hL : DeedsAt w a ls) :
    Calls Try.prog 34 #[.agg #[.int .i64 cn, .int .i64 cs, .int .i64 cy, .int .i64 cb], .slice a m c] w fun e w' => ∃ so l2 sc, e = .returned (.tuple #[.slice so l2 sc, .int .i64 (splitE cn cs cy cb ls)]) ∧ (l2 ≤ sc ∧ sc ≤ maxLen) ∧ SRes cn.toNat ls (splitE cn cs cy cb ls) so l2 w' ∧ Below w.heap.size w w' :=
  (split_any cn cs cy cb ls a m c w hm hm2 hL).mono fun e w' ⟨hb, h⟩ => by
    rcases h with ⟨h, so, sc, h1, h2, h3, h4, h5⟩ | ⟨h, h1⟩
    · exact ⟨so, _, sc, by rw [h1, h], ⟨h2, h3⟩, .inl ⟨h, rfl, h5⟩, hb⟩
    · exact ⟨none, 0, 0, h1, by decide, .inr ⟨h, rfl⟩, hb⟩

def scanE (cn B0 : Int) (ls : List D4) : Int := if B0 = 0 then fnz (splitP cn) 0 ls else B0
theorem splitE_scan (cn cs cy cb : Int) (ls : List D4) : splitE cn cs cy cb ls = scanE cn (if cfgE cn cs cy cb = 0 then (if 200 < ls.length then 2 else 0) else cfgE cn cs cy cb) ls := by
  unfold splitE scanE
  by_cases h : cfgE cn cs cy cb = 0
  · rw [if_pos h, if_pos h]
    by_cases h2 : 200 < ls.length
    · rw [if_pos h2, if_pos h2]; rfl
    · rw [if_neg h2, if_neg h2]; rfl
  · rw [if_neg h, if_neg h, if_neg h]
theorem fnz_snoc {α : Type} (f : Nat → α → Int) (x : α) : ∀ (l : List α) (s : Nat), fnz f s (l ++ [x]) = if fnz f s l = 0 then f (s + l.length) x else fnz f s l
  | [], s => by
    show (if f s x = 0 then (0 : Int) else f s x) = if (0 : Int) = 0 then f s x else 0
    by_cases h : f s x = 0
    · rw [if_pos h, if_pos rfl, h]
    · rw [if_neg h, if_pos rfl]
  | y :: l, s => by
    show (if f s y = 0 then fnz f (s + 1) (l ++ [x]) else f s y) = if (if f s y = 0 then fnz f (s + 1) l else f s y) = 0 then f (s + (l.length + 1)) x else (if f s y = 0 then fnz f (s + 1) l else f s y)
    by_cases h : f s y = 0
    · rw [if_pos h, if_pos h, fnz_snoc f x l (s + 1), show s + 1 + l.length = s + (l.length + 1) by omega]
    · rw [if_neg h, if_neg h, if_neg h]
theorem scanE_snoc (cn B0 : Int) (l : List D4) (x : D4) : scanE cn B0 (l ++ [x]) = if scanE cn B0 l = 0 then splitP cn 0 x else scanE cn B0 l := by
  unfold scanE
  by_cases h : B0 = 0
  · rw [if_pos h, if_pos h]; exact fnz_snoc (splitP cn) x l 0
  · rw [if_neg h, if_neg h, if_neg h]
def RelT (cn B0 : Int) (ls : List D4) (w0 : World) (v i : Value) (wr : World) : Prop :=
  ∃ (j : Nat) (l : Array Obj) (d : Nat), j ≤ ls.length ∧ v = .int .i64 (scanE cn B0 (ls.take j)) ∧ i = .int .i64 j ∧ wr = w0.later l d
theorem step_none {ps : List (List D4)} {s : St} {k : Int} (h : pickD ps s k = none) : s.step ps k = s := by unfold St.step; rw [h]
theorem pick_low {ps : List (List D4)} {s : St} {k : Int} (h : k < 0) : pickD ps s k = none := by unfold pickD; rw [if_pos h]
theorem pick_high {ps : List (List D4)} {s : St} {K : Nat} (h : ps.length ≤ K) : pickD ps s K = none := by
  unfold pickD; rw [if_neg (by omega), Int.toNat_natCast, List.getElem?_eq_none h]; rfl
theorem pick_end {ps : List (List D4)} {s : St} {K t : Nat} {P : List D4} (hP : ps[K]? = some P) (ht : s.at_[K]? = some t) (h : P.length ≤ t) : pickD ps s K = none := by
  unfold pickD; rw [if_neg (by omega), Int.toNat_natCast, hP, ht]
  show P[t]? = none
  exact List.getElem?_eq_none h
theorem step_some {ps : List (List D4)} {s : St} {K t : Nat} {P : List D4} {y : D4} (hP : ps[K]? = some P) (ht : s.at_[K]? = some t) (hy : P[t]? = some y) : s.step ps K = ⟨s.at_.set K (t + 1), s.out ++ [y]⟩ := by
  have h : pickD ps s K = some y := by
    unfold pickD; rw [if_neg (by omega), Int.toNat_natCast, hP, ht]
    exact hy
  unfold St.step; rw [h, Int.toNat_natCast, ht]; rfl
/-- what stands behind the calls -/
def Mid (cn cs cy cb : Int) (ps : List (List D4)) (picks : List Int) (ls : List D4) (y : D4) (e E1 E2 : Int) (ao : Option Addr) (lo : Nat) (aa : Option Addr) (la : Nat) (so : Option Addr) (l2 : Nat) (w : World) (c6 c13 : Value) (wx : World) : Prop :=
  ∃ gC gY : Nat, c6 = .pointer (some ⟨gC, 0, none⟩) ∧ c13 = .pointer (some ⟨gY, 0, none⟩) ∧ Below w.heap.size w wx
    ∧ (wx.cell? ⟨gC, 0, none⟩ = some (.int .i64 cn) ∧ wx.cell? ⟨gC, 1, none⟩ = some (.int .i64 cs) ∧ wx.cell? ⟨gC, 2, none⟩ = some (.int .i64 cy) ∧ wx.cell? ⟨gC, 3, none⟩ = some (.int .i64 cb))
    ∧ (wx.cell? ⟨gY, 0, none⟩ = some (.int .i64 y.n) ∧ wx.cell? ⟨gY, 1, none⟩ = some (.int .i64 y.k) ∧ wx.cell? ⟨gY, 2, none⟩ = some (.int .i64 y.a) ∧ wx.cell? ⟨gY, 3, none⟩ = some (.int .u64 y.v))
    ∧ MRes ps picks E1 ao lo aa la wx ∧ SRes cn.toNat ls E2 so l2 wx
theorem zero_eq : ∀ w, (Op.equalIn 10000 56 (.agg #[.int .i64 0, .int .i64 0, .int .i64 0, .int .u64 0]) (.agg #[.int .i64 0, .int .i64 0, .int .i64 0, .int .u64 0])).run Try.prog w = .ok true w := fun w => by
  rw [run_eq_deed w 0 0 0 0 0 0 0 0 (by decide) (by decide) (by decide) (by decide) (by decide) (by decide) (by decide) (by decide), eqv_true rfl]
theorem deed_eq {y : D4} (h : y.Ok) : ∀ w, (Op.equalIn 10000 56 (.agg #[.int .i64 y.n, .int .i64 y.k, .int .i64 y.a, .int .u64 y.v]) (.agg #[.int .i64 y.n, .int .i64 y.k, .int .i64 y.a, .int .u64 y.v])).run Try.prog w = .ok true w := fun w => by
  rw [run_eq_deed w y.n y.k y.a y.v y.n y.k y.a y.v h.1 h.2.1 h.2.2.1 h.2.2.2 h.1 h.2.1 h.2.2.1 h.2.2.2, eqv_true rfl]
set_option maxHeartbeats 40000000 in
set_option maxRecDepth 100000 in
theorem walk_any (cn cs cy cb : Int) (ps : List (List D4)) (hps : ∀ p ∈ ps, ∀ x ∈ p, x.Ok) (pa : Option Addr) (pn pc : Nat) (ats : List Int) (ta : Option Addr) (tn tc : Nat) (node : Int) (picks : List Int) (qa : Option Addr) (qn qc : Nat) (ls : List D4) (hls : ∀ x ∈ ls, x.Ok) (la : Option Addr) (ln lc : Nat) (w : World)
    (hpn : ps.length = pn) (hpm : pn ≤ maxLen) (hP : ListsAt DeedsAt w pa ps) (htn : ats.length = tn) (htm : tn ≤ maxLen) (hT : IntsAt .i64 w ta ats) (hqn : picks.length = qn) (hqm : qn ≤ maxLen) (hQ : IntsAt .i64 w qa picks) (hln : ls.length = ln) (hlm : ln ≤ maxLen) (hln0 : la = none → ln = 0) (hL : DeedsAt w la ls) :
    Calls Try.prog 9 #[.agg #[.int .i64 cn, .int .i64 cs, .int .i64 cy, .int .i64 cb], .slice pa pn pc, .slice ta tn tc, .int .i64 node, .slice qa qn qc, .slice la ln lc] w (Ret (.bool true) w) := by
  obtain ⟨y, is, e, hnc, hnx⟩ := next_res ps ats pa ta pn pc tn tc node hpn hpm htn htm
  have HNC := Lib.hid hnc
  have HNX := Lib.hid hnx
  have HM := Lib.hid (merge_res cn cs cy cb ps pa pn pc picks qa qn qc hpn hpm hqn hqm)
  have HS := Lib.hid (split_res cn cs cy cb ls la ln lc hln hlm)
  have HF := Lib.hid (fun w h => progsFault_any cn cs cy cb ps pa pn pc w hpn hpm h)
  have HC := Lib.hid (fun w h => progCheck_any cn cs cy cb ps pa pn pc w hpn hpm h)
  have HPP := Lib.hid hP
  have HTT := Lib.hid hT
  have HQQ := Lib.hid hQ
  have HLL := Lib.hid hL
  have HPN := Lib.hid hpn
  have HTN := Lib.hid htn
  have HQN := Lib.hid hqn
  have HLN := Lib.hid hln
  have HPS := Lib.hid hps
  have HLS := Lib.hid hls
  have HL0 := Lib.hid hln0
  obtain ⟨E1, hE1⟩ : ∃ E1, E1 = mergeE cn cs cy cb ps picks := ⟨_, rfl⟩
  obtain ⟨E2, hE2⟩ : ∃ E2, E2 = splitE cn cs cy cb ls := ⟨_, rfl⟩
  obtain ⟨E0, hE0⟩ : ∃ E0, E0 = progsE cn cs cy cb ps := ⟨_, rfl⟩
  rw [← hE1] at HM
  rw [← hE2] at HS
  rw [← hE0] at HF HC
  have HE1 := Lib.hid hE1
  have HE2 := Lib.hid hE2
  have HE0 := Lib.hid hE0
  have hbe : (E0 != E0) = false := by simp
  clear hnc hnx hpn hP htn hT hqn hQ hln hL hps hls hln0 hE1 hE2 hE0
  go_enter Try.func9, Try.ntmps9
  go_upto_block 0 with (first
    | (go_at_call 44; refine (HNX.out _ (lists_below HPP.out (by repeat (first | exact Below.refl _ _ | apply bs_later | apply bs_alloc | apply bs_drew | apply bs_drewN))) (IntsAt.below HTT.out (by repeat (first | exact Below.refl _ _ | apply bs_later | apply bs_alloc | apply bs_drew | apply bs_drewN)))).mono ?_; rintro e w1 ⟨rfl, hb1⟩; obtain ⟨l1, d1, rfl⟩ := later_of hb1; clear hb1)
    | (go_at_call 33; refine (HM.out _ (lists_below HPP.out (by repeat (first | exact Below.refl _ _ | apply bs_later | apply bs_alloc | apply bs_drew | apply bs_drewN))) (IntsAt.below HQQ.out (by repeat (first | exact Below.refl _ _ | apply bs_later | apply bs_alloc | apply bs_drew | apply bs_drewN)))).mono ?_; rintro e w1 ⟨ao, lo, co, aa, la2, ca, rfl, hcap, hmr, hb1⟩; obtain ⟨l2, d2, rfl⟩ := later_of hb1; clear hb1; have HMR := Lib.hid hmr; clear hmr)
    | (go_at_call 34; refine (HS.out _ (DeedsAt.below HLL.out (by repeat (first | exact Below.refl _ _ | apply bs_later | apply bs_alloc | apply bs_drew | apply bs_drewN)))).mono ?_; rintro e w1 ⟨so, ls2, sc, rfl, hcap2, hsr, hb1⟩; obtain ⟨l3, d3, rfl⟩ := later_of hb1; clear hb1; have HSR := Lib.hid hsr; clear hsr)
    | (go_at_call 45; refine (HF.out _ (lists_below HPP.out (by repeat (first | exact Below.refl _ _ | apply bs_later | apply bs_alloc | apply bs_drew | apply bs_drewN)))).mono ?_; rintro e w1 ⟨rfl, hb1⟩; obtain ⟨l4, d4, rfl⟩ := later_of hb1; clear hb1)
    | (go_at_call 46; refine (HC.out _ (lists_below HPP.out (by repeat (first | exact Below.refl _ _ | apply bs_later | apply bs_alloc | apply bs_drew | apply bs_drewN)))).mono ?_; rintro e w1 ⟨rfl, hb1⟩; obtain ⟨l5, d5, rfl⟩ := later_of hb1; clear hb1))
  go_cut [6, 13] (fun c6 c13 wx => Mid cn cs cy cb ps picks ls y e E1 E2 ao lo aa la2 so ls2 w c6 c13 wx)
  case first => as_aux_lemma =>
    have fin : ∀ (wx : World) (gC gY d5' : Nat), wx = ((((((w.alloc (.cells #[.int .i64 cn, .int .i64 cs, .int .i64 cy, .int .i64 cb] 42)).later l1 d1).alloc (.cells #[.int .i64 y.n, .int .i64 y.k, .int .i64 y.a, .int .u64 y.v] 56)).later l2 d2).later l3 d3).later l4 d4).later l5 d5' → gC = w.heap.size → gY = w.heap.size + 1 + l1.size → Mid cn cs cy cb ps picks ls y e E1 E2 ao lo aa la2 so ls2 w (.pointer (some ⟨gC, 0, none⟩)) (.pointer (some ⟨gY, 0, none⟩)) wx := by
      intro wx gC gY d5' hw hg hy
      subst hw; subst hg; subst hy
      refine ⟨_, _, rfl, rfl, (by repeat (first | exact Below.refl _ _ | apply bs_later | apply bs_alloc | apply bs_drew | apply bs_drewN)), ⟨by simp [go_sem], by simp [go_sem], by simp [go_sem], by simp [go_sem]⟩, ⟨by simp [go_sem], by simp [go_sem], by simp [go_sem], by simp [go_sem]⟩, HMR.out.below (by repeat (first | exact Below.refl _ _ | apply bs_later | apply bs_alloc | apply bs_drew | apply bs_drewN)), HSR.out.below (by repeat (first | exact Below.refl _ _ | apply bs_later | apply bs_alloc | apply bs_drew | apply bs_drewN))⟩
    have HFIN := Lib.hid fin
    clear fin HMR HSR HM HS HF HC HNX
    have hq := zero_eq
    have hnc := HNC.out
    clear HNC
    cases hnc with
    | low h0 =>
      go_wp2_with (fail)
      go_meet
      case rel => exact HFIN.out _ _ _ _ rfl rfl rfl
    | high h0 h1 =>
      go_wp2_with (fail)
      go_meet
      case rel => exact HFIN.out _ _ _ _ rfl rfl rfl
    | odd h0 h1 h2 =>
      have h3 : ((tn : Int) != (pn : Int)) = true := by simpa using (by omega : ¬ (tn : Int) = pn)
      clear h2
      unfold maxLen at hpm htm
      go_wp2_with (fail)
      go_meet
      case rel => exact HFIN.out _ _ _ _ rfl rfl rfl
    | neg K t h0 h1 h2 h3 h4 =>
      subst h0
      subst h2
      unfold maxLen at hpm
      have hk' : (K : Int) < tn := by omega
      have hbe2 : ((tn : Int) != (tn : Int)) = false := by simp
      obtain ⟨b, off, rfl, hc⟩ : ∃ b off, ta = some ⟨b, off, none⟩ ∧ w.cell? ⟨b, off + K, none⟩ = some (.int .i64 t) := by
        rcases HTT.out with h | ⟨b, off, h1, h2⟩
        · subst h; cases h3
        · exact ⟨b, off, h1, h2 K _ h3⟩
      have hin : inB w b := lt_of_cell hc
      clear h3
      go_wp2_with (fail)
      go_meet
      case rel => exact HFIN.out _ _ _ _ rfl rfl rfl
    | done K t P h0 h1 h2 h3 h4 h5 h6 =>
      subst h0
      subst h2
      unfold maxLen at hpm
      have hk' : (K : Int) < tn := by omega
      have hbe2 : ((tn : Int) != (tn : Int)) = false := by simp
      obtain ⟨b, off, rfl, hc⟩ : ∃ b off, ta = some ⟨b, off, none⟩ ∧ w.cell? ⟨b, off + K, none⟩ = some (.int .i64 t) := by
        rcases HTT.out with h | ⟨b, off, h1, h2⟩
        · subst h; cases h3
        · exact ⟨b, off, h1, h2 K _ h3⟩
      have hin : inB w b := lt_of_cell hc
      obtain ⟨bp, offp, rfl⟩ := ListsAt.form HPP.out h5
      obtain ⟨qa2, qc2, hcell, hq1, hq2, hq3, hq4⟩ := ListsAt.at HPP.out h5
      have hin2 : inB w bp := lt_of_cell hcell
      unfold maxLen at hq2
      have h7 : ¬ t < 0 := by omega
      clear h3 h5 hq3 hq4
      go_upto_region 10 with (fail)
      go_quiet (fail)
      go_wp2_with (fail)
      go_meet
      case rel => exact HFIN.out _ _ _ _ rfl rfl rfl
    | hit K t P y h0 h1 h2 h3 h4 h5 =>
      subst h0
      subst h2
      unfold maxLen at hpm
      have hk' : (K : Int) < tn := by omega
      have hbe2 : ((tn : Int) != (tn : Int)) = false := by simp
      obtain ⟨b, off, rfl, hc⟩ : ∃ b off, ta = some ⟨b, off, none⟩ ∧ w.cell? ⟨b, off + K, none⟩ = some (.int .i64 (t : Int)) := by
        rcases HTT.out with h | ⟨b, off, h1, h2⟩
        · subst h; cases h3
        · exact ⟨b, off, h1, h2 K _ h3⟩
      have hin : inB w b := lt_of_cell hc
      obtain ⟨bp, offp, rfl⟩ := ListsAt.form HPP.out h4
      obtain ⟨qa2, qc2, hcell, hq1, hq2, hq3, hq4⟩ := ListsAt.at HPP.out h4
      have hin2 : inB w bp := lt_of_cell hcell
      unfold maxLen at hq2
      have htl : t < P.length := (List.getElem?_eq_some_iff.1 h5).1
      have htl' : (t : Int) < P.length := by omega
      have htl3 : ¬ (P.length : Int) ≤ t := by omega
      have htl4 : ¬ P.length ≤ t := by omega
      obtain ⟨b2, off2, rfl⟩ := RowsAt.form hq4 (i := t) (r := y.cells) (by simp [h5])
      obtain ⟨e0, e1, e2, e3⟩ := DeedsAt.at hq4 h5
      have hin3 : inB w b2 := lt_of_cell e0
      have hqy := deed_eq (HPS.out P (List.mem_of_getElem? h4) y (List.mem_of_getElem? h5))
      clear h3 h4 h5 hq3 hq4
      go_upto_region 10 with (fail)
      go_quiet (fail)
      go_wp2_with (fail)
      go_quiet (fail)
      go_wp2_with (fail)
      go_meet
      case rel => exact HFIN.out _ _ _ _ rfl rfl rfl
  case rest =>
    obtain ⟨gC, gY, rfl, rfl, hbw, ⟨c0, c1, c2, c3⟩, ⟨y0, y1, y2, y3⟩, hmr, hsr⟩ := hcut
    obtain ⟨W0, hW0⟩ : ∃ W0, W0 = wc := ⟨_, rfl⟩
    subst hW0
    have HB := Lib.hid hbw
    have HMR1 := Lib.hid hmr
    have HSR1 := Lib.hid hsr
    have HP1 := Lib.hid (lists_below HPP.out hbw)
    have HT1 := Lib.hid (IntsAt.below HTT.out hbw)
    have HQ1 := Lib.hid (IntsAt.below HQQ.out hbw)
    have HL1 := Lib.hid (DeedsAt.below HLL.out hbw)
    have ic : inB W0 gC := lt_of_cell c0
    have iy : inB W0 gY := lt_of_cell y0
    clear hbw hmr hsr HMR HSR HM HS HF HC HNX HPP HTT HQQ HLL
    have hE1 : E1 = if E0 = 0 then (if 200 < qn then 2 else 0) else E0 := by rw [HE1.out, HE0.out]; unfold mergeE; rw [HQN.out]
    have HE10 := Lib.hid hE1
    clear hE1
    unfold maxLen at hqm
    go_upto_region 15 with (fail)
    go_cut [141] (fun c141 wx => c141 = .bool (decide (E0 = 0 ∧ 200 < qn)) ∧ wx = W0)
    case first => as_aux_lemma =>
      by_cases h0 : E0 = 0
      · subst h0
        by_cases h2 : 200 < qn
        · have h3 : (200 : Int) < qn := by omega
          go_wp2_with (fail)
          go_meet
          case rel => exact ⟨by rw [decide_eq_true ⟨rfl, h2⟩], rfl⟩
        · have h3 : ¬ (200 : Int) < qn := by omega
          go_wp2_with (fail)
          go_meet
          case rel => exact ⟨by rw [decide_eq_false (fun h => h2 h.2)], rfl⟩
      · have h1 : (E0 == 0) = false := by simpa using h0
        go_wp2_with (fail)
        go_meet
        case rel => exact ⟨by rw [decide_eq_false (fun h => h0 h.1)], rfl⟩
    case rest =>
      obtain ⟨rfl, hwc⟩ := hcut
      have hwc := hwc.symm; subst hwc
      go_upto_if 141 with (fail)
      go_cut [21, 141] (fun c21 c141 wx => c21 = .int .i64 E1 ∧ wx = W0)
      case first => as_aux_lemma =>
        by_cases h0 : E0 = 0 ∧ 200 < qn
        · have h1 : decide (E0 = 0 ∧ 200 < qn) = true := decide_eq_true h0
          have H2 : Hid (E1 = 2) := Lib.hid (by rw [HE10.out, if_pos h0.1, if_pos h0.2])
          rw [h1]
          clear h1 h0
          go_wp2_with (fail)
          go_meet
          case rel => exact ⟨by rw [H2.out], rfl⟩
        · have h1 : decide (E0 = 0 ∧ 200 < qn) = false := decide_eq_false h0
          have H2 : Hid (E1 = E0) := Lib.hid (by
            rw [HE10.out]
            by_cases h3 : E0 = 0
            · rw [if_pos h3, if_neg (fun h4 => h0 ⟨h3, h4⟩), h3]
            · rw [if_neg h3])
          rw [h1]
          clear h1 h0
          go_wp2_with (fail)
          go_meet
          case rel => exact ⟨by rw [H2.out], rfl⟩
      case rest =>
        obtain ⟨rfl, hwc⟩ := hcut
        have hwc := hwc.symm; subst hwc
        go_upto_if 143 with (fail)
        go_cut [22, 23, 25, 158, 159, 160] (fun c22 c23 c25 c158 c159 c160 wx => ∃ l d, wx = W0.later l d)
        case first => as_aux_lemma =>
          -- M begin
          rcases HMR1.out with ⟨h0, hlo, hla, hmd, hma⟩ | ⟨h0, hlo, hla⟩
          · subst hlo
            subst h0
            rw [HPN.out] at hla
            have hla := hla.symm
            subst hla
            have hE := HE1.out.symm
            obtain ⟨hl, hcf, hq200, hso, hmi, hse⟩ := merge_plain hE
            rw [HPN.out] at hl
            have hn8 : pn ≤ 8 := by
              by_cases h : CfgOK cn cs cy cb
              · have := h.2.1; omega
              · rw [cfgE_bad h] at hcf; simp at hcf
            have hq200' : qn ≤ 200 := by rw [← HQN.out]; exact hq200
            have hst : (mergeS ps picks).at_.length = pn := by rw [hso.len, HPN.out]
            have hoo : ∀ x ∈ (mergeS ps picks).out, x.Ok := fun x hx => by
              obtain ⟨i, P, hP, hxP⟩ := hmi.from_ x hx
              exact HPS.out P (List.mem_of_getElem? hP) x hxP
            have hol := hso.out
            have HEQD : Hid (∀ w b d, DeedsAt w ao (mergeS ps picks).out → DeedsAt w b (mergeS ps picks).out → Calls Try.prog 35 #[.slice ao (mergeS ps picks).out.length co, .slice b (mergeS ps picks).out.length d] w fun e w' => e = .returned (.bool true) ∧ ∃ n, w' = w.drewN n) := Lib.hid fun w b d h1 h2 =>
              (eqDeed.equal_n ao b co d _ w _ _ rfl rfl (by unfold maxLen; omega) hoo hoo h1 h2).mono fun e w' ⟨h3, h4⟩ => ⟨by rw [h3, eqDeed.eqL_yes rfl], h4⟩
            have HEQI : Hid (∀ w b d, IntsAt .i64 w aa (natI (mergeS ps picks).at_) → IntsAt .i64 w b (natI (mergeS ps picks).at_) → Calls Try.prog 19 #[.slice aa pn ca, .slice b pn d] w fun e w' => e = .returned (.bool true) ∧ ∃ n, w' = w.drewN n) := Lib.hid fun w b d h1 h2 => by
              have h := eqInt.equal_same aa b ca d w _ _ rfl (by rw [natI_len, hst]; unfold maxLen; omega) h1 h2
              rw [natI_len, hst] at h
              exact h.mono fun e w' ⟨h3, h4⟩ => ⟨by rw [h3, decide_eq_true rfl], h4⟩
            have HMD := Lib.hid hmd
            have HMA := Lib.hid hma
            obtain ⟨i0, hi, hz0, hz1, hz2⟩ := info_parts info_intM
            obtain ⟨i4, ji, jz0, jz1, jz2⟩ := info_parts info_deed
            clear hE hl hcf hq200 hso hmi hse hst hoo hol hmd hma
            go_wp2_with (at_make; refine wpList_make_full _ rfl _ _ 35 rfl W0.heap.size 3 i0 _ 1 Try.underlying35 hi hz0 hz1 .i64 .i64 _ _ pn rfl rfl rfl rfl ?m1 ?m2 ?m3 ?_)
            case m1 => first | omega | (rw [hz2]; omega)
            try (case m2 => unfold maxLen; omega)
            try (case m3 => simp)
            intro w2 hown hgrow
            have hb2 := below_grown (W0 := W0) (Below.refl _ _) hgrow (fun k hk => by cases hk)
            obtain ⟨l2, d2, rfl⟩ := later_of hb2
            rw [made_ints] at hown
            obtain ⟨g, hg⟩ : ∃ g, g = W0.heap.size := ⟨_, rfl⟩
            have hgb : W0.heap.size ≤ g := by omega
            rw [← hg]
            have HO : Hid ((W0.later l2 d2).ownsRow W0.heap.size 3 1 (.slice (some ⟨g, 0, none⟩) pn pn) pn ((natI (List.replicate pn 0)).map (Value.int .i64))) := Lib.hid (by rw [hg]; exact hown)
            clear hown hgrow hb2 hg
            go_wp2_with (fail)
            go_loopw [22, 160] (RelM ps picks g pn W0) (fun _ i _ => qn - (intOf i).toNat)
            case atStart => exact ⟨0, _, _, by omega, rfl, rfl, by rw [List.take_zero]; show (_ : World).ownsRow _ _ _ _ _ ((natI (List.replicate ps.length 0)).map _); rw [HPN.out]; exact HO.out, World.ownsRow_nil _ _ _ _⟩
            case round =>
              obtain ⟨j, l, d, hj, rfl, rfl, hown, hout⟩ := hrel
              have HAO := Lib.hid (own_anyM hown)
              have HOO := Lib.hid (own_anyM hout)
              have HNE := Lib.hid (own_neM hout)
              have HS0 := Lib.hid (mergeS_ok ps picks j hj)
              by_cases hlt : j < qn
              · obtain ⟨k, hk⟩ := get_some (xs := picks) (k := j) (by rw [HQN.out]; exact hlt)
                obtain ⟨bq, offq, rfl, hcq⟩ : ∃ bq offq, qa = some ⟨bq, offq, none⟩ ∧ W0.cell? ⟨bq, offq + j, none⟩ = some (.int .i64 k) := by
                  rcases HQ1.out with h | ⟨b, off, h1, h2⟩
                  · rw [h] at hk; cases hk
                  · exact ⟨b, off, h1, h2 j k hk⟩
                have hinq : inB W0 bq := lt_of_cell hcq
                have HSN := Lib.hid (mergeS_snoc ps hk)
                have HJ : Hid (j + 1 ≤ picks.length) := Lib.hid (by rw [HQN.out]; exact hlt)
                have HAL : Hid ((mergeS ps (picks.take j)).at_.length = pn) := Lib.hid (by rw [HS0.out.len, HPN.out])
                have hgf := own_farM hown
                generalize hs : mergeS ps (picks.take j) = s at *
                have hol : s.out.length ≤ 200 := by have h1 := HS0.out.out; have h2 := HQN.out; omega
                clear hown hout hs hj hk
                by_cases hk0 : k < 0
                · rw [step_none (pick_low hk0)] at HSN
                  have hk1 : ¬ (0 : Int) ≤ k := by omega
                  go_upto_region 25 with (fail)
                  go_quiet (fail)
                  go_wp2_with (fail)
                  exact ⟨⟨j + 1, _, _, HJ.out, by go_num, rfl, by rw [HSN.out]; exact HAO.out _, by rw [HSN.out]; exact HOO.out _⟩, by simp [intOf]; omega⟩
                obtain ⟨K, rfl⟩ := Int.eq_ofNat_of_zero_le (by omega : 0 ≤ k)
                have hk1 : (0 : Int) ≤ (K : Int) := by omega
                by_cases hKp : pn ≤ K
                · rw [step_none (pick_high (by rw [HPN.out]; exact hKp))] at HSN
                  have hk2 : ¬ (K : Int) < pn := by omega
                  clear hk0
                  go_upto_region 25 with (fail)
                  go_quiet (fail)
                  go_wp2_with (fail)
                  exact ⟨⟨j + 1, _, _, HJ.out, by go_num, rfl, by rw [HSN.out]; exact HAO.out _, by rw [HSN.out]; exact HOO.out _⟩, by simp [intOf]; omega⟩
                · have hk2 : (K : Int) < pn := by omega
                  obtain ⟨P, hP⟩ := get_some (xs := ps) (k := K) (by rw [HPN.out]; omega)
                  obtain ⟨t, ht⟩ := get_some (xs := s.at_) (k := K) (by rw [HAL.out]; omega)
                  obtain ⟨bp, offp, rfl⟩ := ListsAt.form HP1.out hP
                  obtain ⟨qa2, qc2, hcell, hq1, hq2, hq3, hq4⟩ := ListsAt.at HP1.out hP
                  have hin2 : inB W0 bp := lt_of_cell hcell
                  unfold maxLen at hq2
                  have HTC : Hid (((natI s.at_).map (Value.int .i64))[K]? = some (.int .i64 (t : Int))) := Lib.hid (by rw [List.getElem?_map, natI_get ht]; rfl)
                  have m0 : ∀ d', (W0.later l d').cell? ⟨g, K, none⟩ = some (.int .i64 (t : Int)) := fun d' => by rw [(HAO.out d').cellAt K (by omega)]; exact HTC.out
                  by_cases hle : P.length ≤ t
                  · rw [step_none (pick_end hP ht hle)] at HSN
                    have hle2 : ¬ (t : Int) < P.length := by omega
                    clear hk0 hP ht hq3 hq4
                    go_upto_region 25 with (fail)
                    go_quiet (fail)
                    go_wp2_with (fail)
                    exact ⟨⟨j + 1, _, _, HJ.out, by go_num, rfl, by rw [HSN.out]; exact HAO.out _, by rw [HSN.out]; exact HOO.out _⟩, by simp [intOf]; omega⟩
                  · have hle2 : (t : Int) < P.length := by omega
                    obtain ⟨y, hy⟩ := get_some (xs := P) (k := t) (by omega)
                    obtain ⟨b2, off2, rfl⟩ := RowsAt.form hq4 (i := t) (r := y.cells) (by simp [hy])
                    obtain ⟨e0, e1, e2, e3⟩ := DeedsAt.at hq4 hy
                    have hin3 : inB W0 b2 := lt_of_cell e0
                    rw [step_some hP ht hy] at HSN
                    have HCS : Hid (cellsOf (s.out ++ [y]) = cellsOf s.out ++ [.int .i64 y.n, .int .i64 y.k, .int .i64 y.a, .int .u64 y.v]) := Lib.hid (by rw [cellsOf_snoc]; rfl)
                    have hnS := natI_set s.at_ K (t + 1)
                    rw [show (((t + 1 : Nat) : Int)) = (t : Int) + 1 by omega] at hnS
                    have HNS := Lib.hid hnS
                    obtain ⟨yn, yk, ya, yv⟩ := y
                    simp only at e0 e1 e2 e3
                    have hle3 : ¬ P.length ≤ t := hle
                    clear hk0 hP ht hq3 hq4 hy hnS
                    go_upto_region 25 with (fail)
                    go_quiet (fail)
                    go_upto_region 26 with (fail)
                    have hSt : ∀ d', (fun w' : World => (w'.cell? ⟨bp, offp + K, none⟩ = some (.slice (some ⟨b2, off2, none⟩) P.length qc2) ∧ w'.cell? ⟨g, K, none⟩ = some (.int .i64 (t : Int)) ∧ w'.cell? ⟨b2, off2 + t * 4, none⟩ = some (.int .i64 yn) ∧ w'.cell? ⟨b2, off2 + t * 4 + 1, none⟩ = some (.int .i64 yk) ∧ w'.cell? ⟨b2, off2 + t * 4 + 2, none⟩ = some (.int .i64 ya) ∧ w'.cell? ⟨b2, off2 + t * 4 + 3, none⟩ = some (.int .u64 yv))) (W0.later l d') := fun d' => ⟨by go_simp, m0 d', by go_simp, by go_simp, by go_simp, by go_simp⟩
                    have HSt := Lib.hid hSt
                    clear hSt
                    refine wp_region_held_drew (S := fun w' => (w'.cell? ⟨bp, offp + K, none⟩ = some (.slice (some ⟨b2, off2, none⟩) P.length qc2) ∧ w'.cell? ⟨g, K, none⟩ = some (.int .i64 (t : Int)) ∧ w'.cell? ⟨b2, off2 + t * 4, none⟩ = some (.int .i64 yn) ∧ w'.cell? ⟨b2, off2 + t * 4 + 1, none⟩ = some (.int .i64 yk) ∧ w'.cell? ⟨b2, off2 + t * 4 + 2, none⟩ = some (.int .i64 ya) ∧ w'.cell? ⟨b2, off2 + t * 4 + 3, none⟩ = some (.int .u64 yv))) (by kernel_rfl) (HSt.out _) (fun hHeld => ?_)
                    try simp only [Act.put, List.getElem_toArray, List.getElem_cons_succ, List.getElem_cons_zero, List.setIfInBounds_toArray, List.set_cons_zero, List.set_cons_succ]
                    refine wpAnyH_take (i := 0) (v := ?v0m) rfl (by kernel_rfl) (by kernel_rfl) (by kernel_rfl) (fun _ _ _ h => h) (Or.inl ⟨by rfl, ?y0m⟩) (by assumption) ?r0m
                    case y0m => intro w hw; obtain ⟨h1, h2, h3, h4, h5, h6⟩ := hw; go_simp; with_reducible rfl
                    try simp only [Act.put, List.getElem_toArray, List.getElem_cons_succ, List.getElem_cons_zero, List.setIfInBounds_toArray, List.set_cons_zero, List.set_cons_succ]
                    refine wpAnyH_take (i := 1) (v := ?v1m) rfl (by kernel_rfl) (by kernel_rfl) (by kernel_rfl) (fun _ _ _ h => h) (Or.inl ⟨by rfl, ?y1m⟩) (by assumption) ?r1m
                    case y1m => intro w hw; obtain ⟨h1, h2, h3, h4, h5, h6⟩ := hw; go_simp; with_reducible rfl
                    try simp only [Act.put, List.getElem_toArray, List.getElem_cons_succ, List.getElem_cons_zero, List.setIfInBounds_toArray, List.set_cons_zero, List.set_cons_succ]
                    refine wpAnyH_take (i := 2) (v := ?v2m) rfl (by kernel_rfl) (by kernel_rfl) (by kernel_rfl) (fun _ _ _ h => h) (Or.inl ⟨by rfl, ?y2m⟩) (by assumption) ?r2m
                    case y2m => intro w hw; obtain ⟨h1, h2, h3, h4, h5, h6⟩ := hw; go_simp; with_reducible rfl
                    try simp only [Act.put, List.getElem_toArray, List.getElem_cons_succ, List.getElem_cons_zero, List.setIfInBounds_toArray, List.set_cons_zero, List.set_cons_succ]
                    refine wpAnyH_take (i := 3) (v := ?v3m) rfl (by kernel_rfl) (by kernel_rfl) (by kernel_rfl) (fun _ _ _ h => h) (Or.inl ⟨by rfl, ?y3m⟩) (by assumption) ?r3m
                    case y3m => intro w hw; obtain ⟨h1, h2, h3, h4, h5, h6⟩ := hw; go_simp; with_reducible rfl
                    try simp only [Act.put, List.getElem_toArray, List.getElem_cons_succ, List.getElem_cons_zero, List.setIfInBounds_toArray, List.set_cons_zero, List.set_cons_succ]
                    refine wpAnyH_take (i := 4) (v := ?v4m) rfl (by kernel_rfl) (by kernel_rfl) (by kernel_rfl) (fun _ _ _ h => h) (Or.inl ⟨by rfl, ?y4m⟩) (by assumption) ?r4m
                    case y4m => intro w hw; obtain ⟨h1, h2, h3, h4, h5, h6⟩ := hw; go_simp; with_reducible rfl
                    try simp only [Act.put, List.getElem_toArray, List.getElem_cons_succ, List.getElem_cons_zero, List.setIfInBounds_toArray, List.set_cons_zero, List.set_cons_succ]
                    refine wpAnyH_take (i := 5) (v := ?v5m) rfl (by kernel_rfl) (by kernel_rfl) (by kernel_rfl) (fun _ _ _ h => h) (Or.inl ⟨by rfl, ?y5m⟩) (by assumption) ?r5m
                    case y5m => intro w hw; obtain ⟨h1, h2, h3, h4, h5, h6⟩ := hw; go_simp; with_reducible rfl
                    try simp only [Act.put, List.getElem_toArray, List.getElem_cons_succ, List.getElem_cons_zero, List.setIfInBounds_toArray, List.set_cons_zero, List.set_cons_succ]
                    refine wpAnyH_take (i := 6) (v := ?v6m) rfl (by kernel_rfl) (by kernel_rfl) (by kernel_rfl) (fun _ _ _ h => h) (Or.inl ⟨by rfl, ?y6m⟩) (by assumption) ?r6m
                    case y6m => intro w hw; obtain ⟨h1, h2, h3, h4, h5, h6⟩ := hw; go_simp; with_reducible rfl
                    try simp only [Act.put, List.getElem_toArray, List.getElem_cons_succ, List.getElem_cons_zero, List.setIfInBounds_toArray, List.set_cons_zero, List.set_cons_succ]
                    refine wpAnyH_take (i := 7) (v := ?v7m) rfl (by kernel_rfl) (by kernel_rfl) (by kernel_rfl) (fun _ _ _ h => h) (Or.inl ⟨by rfl, ?y7m⟩) (by assumption) ?r7m
                    case y7m => intro w hw; obtain ⟨h1, h2, h3, h4, h5, h6⟩ := hw; go_simp; with_reducible rfl
                    try simp only [Act.put, List.getElem_toArray, List.getElem_cons_succ, List.getElem_cons_zero, List.setIfInBounds_toArray, List.set_cons_zero, List.set_cons_succ]
                    refine wpAnyH_take (i := 8) (v := ?v8m) rfl (by kernel_rfl) (by kernel_rfl) (by kernel_rfl) (fun _ _ _ h => h) (Or.inl ⟨by rfl, ?y8m⟩) (by assumption) ?r8m
                    case y8m => intro w hw; obtain ⟨h1, h2, h3, h4, h5, h6⟩ := hw; go_simp; with_reducible rfl
                    try simp only [Act.put, List.getElem_toArray, List.getElem_cons_succ, List.getElem_cons_zero, List.setIfInBounds_toArray, List.set_cons_zero, List.set_cons_succ]
                    refine wpAnyH_take (i := 9) (v := ?v9m) rfl (by kernel_rfl) (by kernel_rfl) (by kernel_rfl) (fun _ _ _ h => h) (Or.inl ⟨by rfl, ?y9m⟩) (by assumption) ?r9m
                    case y9m => intro w hw; obtain ⟨h1, h2, h3, h4, h5, h6⟩ := hw; go_simp; with_reducible rfl
                    try simp only [Act.put, List.getElem_toArray, List.getElem_cons_succ, List.getElem_cons_zero, List.setIfInBounds_toArray, List.set_cons_zero, List.set_cons_succ]
                    refine wpAnyH_take (i := 10) (v := ?v10m) rfl (by kernel_rfl) (by kernel_rfl) (by kernel_rfl) (fun _ _ _ h => h) (Or.inl ⟨by rfl, ?y10m⟩) (by assumption) ?r10m
                    case y10m => intro w hw; obtain ⟨h1, h2, h3, h4, h5, h6⟩ := hw; go_simp; with_reducible rfl
                    try simp only [Act.put, List.getElem_toArray, List.getElem_cons_succ, List.getElem_cons_zero, List.setIfInBounds_toArray, List.set_cons_zero, List.set_cons_succ]
                    refine wpAnyH_ready (rs := [11]) (by decide +kernel) (by simp) ?_
                    refine AllReadyH.cons rfl (fun KK hKK => ?_) AllReadyH.nil
                    go_simp
                    refine hKK.out _ _ (show ((_ : World).cell? ⟨bp, offp + K, none⟩ = some (.slice (some ⟨b2, off2, none⟩) P.length qc2) ∧ (_ : World).cell? ⟨g, K, none⟩ = some (.int .i64 (t : Int)) ∧ (_ : World).cell? ⟨b2, off2 + t * 4, none⟩ = some (.int .i64 yn) ∧ (_ : World).cell? ⟨b2, off2 + t * 4 + 1, none⟩ = some (.int .i64 yk) ∧ (_ : World).cell? ⟨b2, off2 + t * 4 + 2, none⟩ = some (.int .i64 ya) ∧ (_ : World).cell? ⟨b2, off2 + t * 4 + 3, none⟩ = some (.int .u64 yv)) from ⟨by go_simp, (World.cell?_alloc_past (w := W0.later l _) _ _ _ (lt_of_cell (m0 _))).trans (m0 _), by go_simp, by go_simp, by go_simp, by go_simp⟩) (fun hHeld => ?_)
                    clear hKK KK
                    try simp only [Act.put, List.getElem_toArray, List.getElem_cons_succ, List.getElem_cons_zero, List.setIfInBounds_toArray, List.set_cons_zero, List.set_cons_succ]
                    refine wpAnyH_ready (rs := [12]) (by decide +kernel) (by simp) ?_
                    refine AllReadyH.cons rfl (fun KK hKK => ?_) AllReadyH.nil
                    refine step_append_lies _ (by rfl) _ _ 60 (by rfl) (g + 1) 56 i4 _ 4 32 Try.underlying60 ji jz0 jz1 jz2 rfl (by decide) _ _ _ (by rfl) ((HOO.out _).alloc _) ⟨_, 0, none⟩ 1 1 [.int .i64 yn, .int .i64 yk, .int .i64 ya, .int .u64 yv] (by rfl) rfl (four_new (by simp)) (fun u hu => by simp at hu; rcases hu with rfl | rfl | rfl | rfl <;> rfl) (by decide) (by unfold maxLen; omega) (by omega) (by have h := ((HAO.out 0).lt g rfl).2; simp at h; simp; omega) _ rfl ?_
                    intro b5 c5 w1 hown5 hgrow hat5 hlt5
                    have hb5 := below_grown (W0 := W0) (by repeat (first | exact Below.refl _ _ | apply bs_later | apply bs_alloc | apply bs_drew | apply bs_drewN)) hgrow (fun g' hg' => by have h := ((HOO.out 0).lt g' hg').1; omega)
                    have hown6 := ((HAO.out _).alloc _).kept hgrow (.inr (fun h => HNE.out h.symm))
                    obtain ⟨l5, d5, rfl⟩ := later_of hb5
                    have m5 : (W0.later l5 d5).cell? ⟨g, K, none⟩ = some (.int .i64 (t : Int)) := (by rw [hown6.cellAt K (by omega)]; exact HTC.out)
                    have mf5 := hown6.frozenAt K
                    have mgf5 := own_farM hown6
                    refine hKK.out _ _ (show ((_ : World).cell? ⟨bp, offp + K, none⟩ = some (.slice (some ⟨b2, off2, none⟩) P.length qc2) ∧ (_ : World).cell? ⟨g, K, none⟩ = some (.int .i64 (t : Int)) ∧ (_ : World).cell? ⟨b2, off2 + t * 4, none⟩ = some (.int .i64 yn) ∧ (_ : World).cell? ⟨b2, off2 + t * 4 + 1, none⟩ = some (.int .i64 yk) ∧ (_ : World).cell? ⟨b2, off2 + t * 4 + 2, none⟩ = some (.int .i64 ya) ∧ (_ : World).cell? ⟨b2, off2 + t * 4 + 3, none⟩ = some (.int .u64 yv)) from ⟨by go_simp, m5, by go_simp, by go_simp, by go_simp, by go_simp⟩) (fun hHeld => ?_)
                    clear hKK KK
                    try simp only [Act.put, List.getElem_toArray, List.getElem_cons_succ, List.getElem_cons_zero, List.setIfInBounds_toArray, List.set_cons_zero, List.set_cons_succ]
                    refine wpAnyH_take (i := 13) (v := ?v13m) rfl (by kernel_rfl) (by kernel_rfl) (by kernel_rfl) (fun _ _ _ h => h) (Or.inl ⟨by rfl, ?y13m⟩) (by assumption) ?r13m
                    case y13m => intro w hw; go_simp; with_reducible rfl
                    try simp only [Act.put, List.getElem_toArray, List.getElem_cons_succ, List.getElem_cons_zero, List.setIfInBounds_toArray, List.set_cons_zero, List.set_cons_succ]
                    refine wpAnyH_done (by decide +kernel) ?_ _
                    obtain ⟨l6, d6, e6, -, h6⟩ := own_storeM hown6 (Nat.le_refl _) hgb K (.int .i64 ((t : Int) + 1))
                    have q6 := ownsRow_setCell_other hown5 (a := ⟨g, K, none⟩) (own_neM hown5) (.int .i64 ((t : Int) + 1))
                    rw [e6] at q6
                    rw [HNS.out] at h6
                    rw [← HCS.out] at q6
                    have HQ6 := Lib.hid q6
                    have HA6 := Lib.hid h6
                    have HSN1 := Lib.hid (congrArg St.at_ HSN.out)
                    have HSN2 := Lib.hid (congrArg St.out HSN.out)
                    clear hown5 hgrow hat5 hlt5 hb5 hown6 q6 h6 hHeld HSt
                    all_goals go_wp2_with (fail)
                    all_goals exact ⟨⟨j + 1, _, _, HJ.out, by go_num, rfl, by rw [HSN1.out]; exact HA6.out, by rw [HSN2.out, List.length_append]; exact HQ6.out⟩, by simp [intOf]; omega⟩
              · obtain rfl : j = qn := by have := HQN.out; omega
                have htk : picks.take j = picks := List.take_of_length_le (by rw [HQN.out]; exact Nat.le_refl _)
                rw [htk] at HAO HOO hown hout
                obtain ⟨sa, sc3, hv⟩ := own_form hout
                subst hv
                have HA2 := Lib.hid (own_ints hown).2
                have HD2 := Lib.hid (own_deeds hout)
                clear hown hout htk
                go_wp2_with (first
                  | (go_at_call 35; refine (HEQD.out _ _ _ ?g1 ?g2).mono ?_; (case g1 => exact DeedsAt.below HMD.out (by repeat (first | exact Below.refl _ _ | apply bs_later | apply bs_alloc | apply bs_drew | apply bs_drewN))); (case g2 => exact HD2.out); rintro e w1 ⟨rfl, nd, rfl⟩)
                  | (go_at_call 19; refine (HEQI.out _ _ _ ?g3 ?g4).mono ?_; (case g3 => exact IntsAt.below HMA.out (by repeat (first | exact Below.refl _ _ | apply bs_later | apply bs_alloc | apply bs_drew | apply bs_drewN))); (case g4 => exact HA2.out); rintro e w1 ⟨rfl, nd2, rfl⟩))
                go_meet
                case rel => exact ⟨_, _, rfl⟩
          · subst hlo
            subst hla
            have h1 : (E1 != 0) = true := by simpa using h0
            have h2 : (E1 != E1) = false := by simp
            go_wp2_with (fail)
            go_meet
            case rel => exact ⟨_, _, later_zero _⟩
          -- M end
        case rest =>
          obtain ⟨l, d, hwc⟩ := hcut
          subst hwc
          -- C begin
          have hE2 : E2 = scanE cn (if cfgE cn cs cy cb = 0 then (if 200 < ln then 2 else 0) else cfgE cn cs cy cb) ls := by rw [HE2.out]; exact (splitE_scan cn cs cy cb ls).trans (by rw [HLN.out])
          have HE20 := Lib.hid hE2
          have HCF := Lib.hid (fun w => refCfg.configFault_any cn cs cy cb w)
          have hcn8 : E2 = 0 → ∃ n : Nat, cn = (n : Int) ∧ n ≤ 8 ∧ ln ≤ 200 := fun h => by
            rw [HE2.out] at h
            unfold splitE at h
            by_cases hc : CfgOK cn cs cy cb
            · rw [if_pos (cfgE_ok hc), HLN.out] at h
              by_cases h2 : 200 < ln
              · rw [if_pos h2] at h; cases h
              · have h3 := hc.1
                have h4 := hc.2.1
                exact ⟨cn.toNat, by omega, by omega, by omega⟩
            · rw [cfgE_bad hc] at h; simp at h
          have HCN := Lib.hid hcn8
          generalize cfgE cn cs cy cb = C0 at *
          clear hE2 hcn8
          unfold maxLen at hlm
          go_upto_region 32 with (go_at_call 47; refine (HCF.out _).mono ?_; rintro e w1 ⟨rfl, hb1⟩; obtain ⟨l3, d3, rfl⟩ := later_of hb1; clear hb1; rw [later_later])
          obtain ⟨B0, hB0⟩ : ∃ B0, B0 = if C0 = 0 then (if 200 < ln then 2 else 0) else C0 := ⟨_, rfl⟩
          rw [← hB0] at HE20
          have HB0 := Lib.hid hB0
          clear hB0
          go_cut [226] (fun c226 wx => c226 = .bool (decide (C0 = 0 ∧ 200 < ln)) ∧ ∃ l d, wx = W0.later l d)
          case first => as_aux_lemma =>
            by_cases h0 : C0 = 0
            · subst h0
              by_cases h2 : 200 < ln
              · have h3 : (200 : Int) < ln := by omega
                go_wp2_with (fail)
                go_meet
                case rel => exact ⟨by rw [decide_eq_true ⟨rfl, h2⟩], _, _, rfl⟩
              · have h3 : ¬ (200 : Int) < ln := by omega
                go_wp2_with (fail)
                go_meet
                case rel => exact ⟨by rw [decide_eq_false (fun h => h2 h.2)], _, _, rfl⟩
            · have h1 : (C0 == 0) = false := by simpa using h0
              go_wp2_with (fail)
              go_meet
              case rel => exact ⟨by rw [decide_eq_false (fun h => h0 h.1)], _, _, rfl⟩
          case rest =>
            obtain ⟨rfl, l, d, hwc⟩ := hcut
            subst hwc
            go_upto_if 226 with (fail)
            go_cut [21, 226] (fun c21 c226 wx => c21 = .int .i64 B0 ∧ ∃ l d, wx = W0.later l d)
            case first => as_aux_lemma =>
              by_cases h0 : C0 = 0 ∧ 200 < ln
              · have h1 : decide (C0 = 0 ∧ 200 < ln) = true := decide_eq_true h0
                have H2 : Hid (B0 = 2) := Lib.hid (by rw [HB0.out, if_pos h0.1, if_pos h0.2])
                rw [h1]
                clear h1 h0
                go_wp2_with (fail)
                go_meet
                case rel => exact ⟨by rw [H2.out], _, _, rfl⟩
              · have h1 : decide (C0 = 0 ∧ 200 < ln) = false := decide_eq_false h0
                have H2 : Hid (B0 = C0) := Lib.hid (by
                  rw [HB0.out]
                  by_cases h3 : C0 = 0
                  · rw [if_pos h3, if_neg (fun h4 => h0 ⟨h3, h4⟩), h3]
                  · rw [if_neg h3])
                rw [h1]
                clear h1 h0
                go_wp2_with (fail)
                go_meet
                case rel => exact ⟨by rw [H2.out], _, _, rfl⟩
            case rest =>
              obtain ⟨rfl, l, d, hwc⟩ := hcut
              subst hwc
              go_wp2_with (fail)
              go_loopw [21, 229] (RelT cn B0 ls W0) (fun _ i _ => ln - (intOf i).toNat)
              case atStart => exact ⟨0, _, _, Nat.zero_le _, by rw [List.take_zero]; show _ = Value.int .i64 (if B0 = 0 then 0 else B0); by_cases h : B0 = 0 <;> simp [h], rfl, rfl⟩
              case round =>
                obtain ⟨j, l, d, hj, rfl, rfl, rfl⟩ := hrel
                by_cases hlt : j < ln
                · obtain ⟨x, hx⟩ := get_some (xs := ls) (k := j) (by rw [HLN.out]; exact hlt)
                  obtain ⟨b, off, rfl⟩ := RowsAt.form HL1.out (i := j) (r := x.cells) (by simp [hx])
                  obtain ⟨e0, e1, e2, e3⟩ := DeedsAt.at HL1.out hx
                  have hin3 : inB W0 b := lt_of_cell e0
                  have HJ : Hid (j + 1 ≤ ls.length) := Lib.hid (by rw [HLN.out]; exact hlt)
                  have HSC := Lib.hid (show scanE cn B0 (ls.take (j + 1)) = if scanE cn B0 (ls.take j) = 0 then splitP cn 0 x else scanE cn B0 (ls.take j) by rw [List.take_add_one, hx]; exact scanE_snoc cn B0 (ls.take j) x)
                  generalize scanE cn B0 (ls.take j) = S at *
                  obtain ⟨xn, xk, xa, xv⟩ := x
                  simp only at e0 e1 e2 e3
                  clear hx hj
                  by_cases hS : S = 0
                  · subst hS
                    have PR := fun w => refDeed.deedFault_any xn xk xa xv w
                    by_cases hr : rightE xn xk xa xv = 0
                    · rw [hr] at PR
                      have HR := Lib.hid PR
                      by_cases hn : cn ≤ xn
                      · have HV : Hid (scanE cn B0 (ls.take (j + 1)) = 4) := Lib.hid (by rw [HSC.out, if_pos rfl]; unfold splitP; rw [if_pos hr, if_pos hn])
                        clear PR hr
                        go_wp2_with (go_at_call 28; refine (HR.out _).mono ?_; rintro e w1 ⟨rfl, hb1⟩; obtain ⟨l4, d4, rfl⟩ := later_of hb1; clear hb1)
                        exact ⟨⟨j + 1, _, _, HJ.out, by rw [HV.out], by go_num, later_al _ _ _ _ _ _⟩, by simp [intOf]; omega⟩
                      · have HV : Hid (scanE cn B0 (ls.take (j + 1)) = 0) := Lib.hid (by rw [HSC.out, if_pos rfl]; unfold splitP; rw [if_pos hr, if_neg hn])
                        clear PR hr
                        go_wp2_with (go_at_call 28; refine (HR.out _).mono ?_; rintro e w1 ⟨rfl, hb1⟩; obtain ⟨l4, d4, rfl⟩ := later_of hb1; clear hb1)
                        exact ⟨⟨j + 1, _, _, HJ.out, by rw [HV.out], by go_num, later_al _ _ _ _ _ _⟩, by simp [intOf]; omega⟩
                    · have HR := Lib.hid PR
                      have HV : Hid (scanE cn B0 (ls.take (j + 1)) = rightE xn xk xa xv) := Lib.hid (by rw [HSC.out, if_pos rfl]; exact if_neg hr)
                      generalize rightE xn xk xa xv = R at *
                      have hr1 : (R == 0) = false := by simpa using hr
                      clear PR hr
                      go_wp2_with (go_at_call 28; refine (HR.out _).mono ?_; rintro e w1 ⟨rfl, hb1⟩; obtain ⟨l4, d4, rfl⟩ := later_of hb1; clear hb1)
                      exact ⟨⟨j + 1, _, _, HJ.out, by rw [HV.out], by go_num, later_al _ _ _ _ _ _⟩, by simp [intOf]; omega⟩
                  · have HV : Hid (scanE cn B0 (ls.take (j + 1)) = S) := Lib.hid (by rw [HSC.out, if_neg hS])
                    have hS1 : (S == 0) = false := by simpa using hS
                    clear hS HSC
                    go_wp2_with (fail)
                    exact ⟨⟨j + 1, _, _, HJ.out, by rw [HV.out], by go_num, later_alloc _ _ _ _⟩, by simp [intOf]; omega⟩
                · obtain rfl : j = ln := by have := HLN.out; omega
                  have hsc : scanE cn B0 (ls.take j) = E2 := by rw [List.take_of_length_le (by rw [HLN.out]; exact Nat.le_refl _), HE20.out]
                  rw [hsc]
                  clear hsc
                  have hsr := HSR1.out
                  rcases hsr with ⟨h0, hl2, hsl⟩ | ⟨h0, hl2⟩
                  · obtain ⟨n, hcn, hn8, hl200⟩ := HCN.out h0
                    have HL200 : Hid (ls.length ≤ 200) := Lib.hid (by rw [HLN.out]; exact hl200)
                    subst h0
                    subst hcn
                    rw [Int.toNat_natCast] at hl2 hsl
                    subst hl2
                    have HSL := Lib.hid hsl
                    have hbn : ((ls2 : Int) != (ls2 : Int)) = false := by simp
                    clear hsl HSR1
                    go_wp2_with (fail)
                    go_loopw [268] (RelP ls2 W0) (fun i _ => ls2 - (intOf i).toNat)
                    case atStart => exact ⟨0, _, _, Nat.zero_le _, rfl, rfl⟩
                    case round =>
                      obtain ⟨k, l, d, hk, rfl, rfl⟩ := hrel
                      by_cases hlt2 : k < ls2
                      · have hsg := splitL_get hlt2 ls
                        obtain ⟨bs, offs, rfl⟩ := ListsAt.form HSL.out hsg
                        obtain ⟨sa, sqc, scell, sq1, sq2, sq3, sq4⟩ := ListsAt.at HSL.out hsg
                        have hin4 : inB W0 bs := lt_of_cell scell
                        have HSQ := Lib.hid sq4
                        have HCL : Hid (∀ w, DeedsAt w la ls → Calls Try.prog 49 #[.slice la j lc] w (OwnPost w ls)) := Lib.hid fun w h => cloneDeed_any ls la j lc w HLN.out (by have := HL200.out; have := HLN.out; omega) HL0.out h
                        have HOK : Hid (∀ x ∈ nodeL k ls, x.Ok) := Lib.hid fun x hx => HLS.out x (List.mem_filter.1 hx).1
                        have HNB : Hid ((nodeL k ls).length ≤ 200) := Lib.hid (Nat.le_trans (nodeL_len k ls) HL200.out)
                        have hk2 : (k : Int) < ls2 := by omega
                        clear hsg sq1 sq2 sq3 sq4 hk
                        go_wp2_with (first
                          | (go_at_call 49; refine (HCL.out _ ?g1).mono ?_; (case g1 => exact DeedsAt.below HL1.out (by repeat (first | exact Below.refl _ _ | apply bs_later | apply bs_alloc | apply bs_drew | apply bs_drewN))); rintro e w1 ⟨v, l5, d5, rfl, rfl, hv⟩; have HV := Lib.hid hv; clear hv)
                          | (go_at_call 48; refine (delDeed_own (k : Int) ls _ ls.length _ _ _ _ rfl HL200.out HV.out ?g2).mono ?_; (case g2 => go_simp); rintro e w1 ⟨v2, l6, d6, rfl, rfl, hv2⟩; obtain ⟨a2, c2, rfl⟩ := own_form hv2; have HD2 := Lib.hid (own_deeds hv2); clear hv2)
                          | (go_at_call 35; refine (eqDeed.equal_n _ _ _ _ (nodeL k ls).length _ (nodeL k ls) (nodeL k ls) rfl rfl (by have := HNB.out; unfold maxLen; omega) HOK.out HOK.out ?g3 HD2.out).mono ?_; (case g3 => exact DeedsAt.below HSQ.out (by repeat (first | exact Below.refl _ _ | apply bs_later | apply bs_alloc | apply bs_drew | apply bs_drewN))); rintro e w1 ⟨rfl, nd, rfl⟩; rw [eqDeed.eqL_yes rfl]))
                        exact ⟨⟨k + 1, _, _, hlt2, by go_num, later_al _ _ _ _ _ _⟩, by simp [intOf]; omega⟩
                      · obtain rfl : k = ls2 := by omega
                        go_wp2_with (fail)
                        go_ret
                        exact ⟨rfl, below_trans HB.out (by repeat (first | exact Below.refl _ _ | apply bs_later | apply bs_alloc | apply bs_drew | apply bs_drewN))⟩
                  · subst hl2
                    have hE : (E2 != 0) = true := by simpa using h0
                    have hE1 : (E2 == E2) = true := by simp
                    go_wp2_with (fail)
                    go_ret
                    exact ⟨rfl, below_trans HB.out (by repeat (first | exact Below.refl _ _ | apply bs_later | apply bs_alloc | apply bs_drew | apply bs_drewN))⟩
          -- C end
end Go.Proofs.Ytffhfpdmfegcpab.progTells
