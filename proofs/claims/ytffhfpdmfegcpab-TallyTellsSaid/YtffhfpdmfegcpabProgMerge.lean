/- The contract of prog.Merge. -/
import Derived.Test.YtffhfpdmfegcpabProgCheck
import Derived.Test.YtffhfpdmfegcpabMergeLaw
import Derived.OneCell
import Derived.Laws.OwnMore
namespace Go.Proofs.Ytffhfpdmfegcpab.prog
open Go.ChangeShapes Go.WideShapes Go.ChangeAt Go.RowKit
open Go.Proofs.Ytffhfpdmfegcpab.base Go.Proofs.Ytffhfpdmfegcpab.flat Go.Proofs.Ytffhfpdmfegcpab.table Go.Proofs.Ytffhfpdmfegcpab.addr Go.Proofs.Ytffhfpdmfegcpab.atomic Go.Proofs.Ytffhfpdmfegcpab.told
set_option linter.unusedVariables false
set_option linter.unusedSimpArgs false

theorem lists_below {w w' : World} {a : Option Addr} {ps : List (List D4)} (h : ListsAt DeedsAt w a ps) (hb : Below w.heap.size w w') : ListsAt DeedsAt w' a ps :=
  ListsAt.below (Q := DeedsAt) (fun {w w' a l} hb h => table.DeedsAt.below h hb) h hb
theorem own_anyM {W : World} {l : Array Obj} {d base n size : Nat} {e : TypeId} {v : Value} {xs : List Value} (h : (W.later l d).ownsRow base e size v n xs) : ∀ d', (W.later l d').ownsRow base e size v n xs := fun _ => h
theorem own_neM {w : World} {g n size : Nat} {e : TypeId} {v : Value} {xs : List Value} (h : w.ownsRow (g + 1) e size v n xs) : v.ownBlock ≠ some g := by
  intro e
  have := (h.lt g e).1
  omega
theorem own_capsM {w : World} {base n c size : Nat} {e : TypeId} {a : Option Addr} {xs : List Value} (h : w.ownsRow base e size (.slice a n c) n xs) : n ≤ c ∧ c ≤ maxLen := by
  rcases h.2 with ⟨h1, h2⟩ | ⟨g, cap, cur, hv, _, _, h3, h4, _⟩
  · cases h1; cases h2; exact ⟨Nat.le_refl _, by unfold maxLen; omega⟩
  · injection hv with _ _ h5; subst h5; exact ⟨h3, h4⟩
theorem info_intM : (Try.prog.info? 3).map (fun i => (i.zero, i.size, i.bytes)) = some (some (.int .i64 0), 1, 8) := by kernel_rfl
theorem own_storeM {W : World} {l : Array Obj} {d base g n cap size : Nat} {e : TypeId} {xs : List Value} (h : (W.later l d).ownsRow base e size (.slice (some ⟨g, 0, none⟩) n cap) n xs) (hb : W.heap.size ≤ base) (hg : base ≤ g) (j : Nat) (u : Value) :
    ∃ l' d', (W.later l d).setCell ⟨g, j, none⟩ u = W.later l' d' ∧ l'.size = l.size ∧ (W.later l' d').ownsRow base e size (.slice (some ⟨g, 0, none⟩) n cap) n (xs.set j u) := by
  obtain ⟨h1, h2⟩ := World.ownsRow.stored h j u
  have hbw : Below W.heap.size W ((W.later l d).setCell ⟨g, j, none⟩ u) := (bs_later (Below.refl _ _) l d).grown h2 (by simp) (fun k hk => by injection hk with hk; omega)
  obtain ⟨l', d', e⟩ := later_of hbw
  refine ⟨l', d', e, ?_, e ▸ h1⟩
  have := congrArg (fun w : World => w.heap.size) e
  simp only [World.setCell, Array.size_modify, size_later] at this
  omega
theorem ints_dM {k : IntKind} {W : World} {l : Array Obj} {d d' : Nat} {a : Option Addr} {xs : List Int} (h : IntsAt k (W.later l d) a xs) : IntsAt k (W.later l d') a xs := h
theorem own_push {W : World} {l : Array Obj} {d base size n : Nat} {e : TypeId} {v : Value} {xs : List Value} (h : (W.later l d).ownsRow base e size v n xs) (o : Obj) (d' : Nat) : (W.later (l.push o) d').ownsRow base e size v n xs := by
  rw [← later_alloc]
  exact (own_anyM h d').alloc o
def MergePost (cn cs cy cb : Int) (ps : List (List D4)) (picks : List Int) (w : World) (e : Ending) (w' : World) : Prop :=
  Below w.heap.size w w' ∧ ((mergeE cn cs cy cb ps picks = 0 ∧ ∃ ao co aa ca, e = .returned (.tuple #[.slice ao (mergeS ps picks).out.length co, .slice aa ps.length ca, .int .i64 0]) ∧ (mergeS ps picks).out.length ≤ co ∧ co ≤ maxLen ∧ ps.length ≤ ca ∧ ca ≤ maxLen ∧ DeedsAt w' ao (mergeS ps picks).out ∧ IntsAt .i64 w' aa (natI (mergeS ps picks).at_))
    ∨ (¬ mergeE cn cs cy cb ps picks = 0 ∧ e = .returned (.tuple #[.slice none 0 0, .slice none 0 0, .int .i64 (mergeE cn cs cy cb ps picks)])))
def RelM (ps : List (List D4)) (picks : List Int) (g pn : Nat) (w0 : World) (v i : Value) (wr : World) : Prop :=
  ∃ (j : Nat) (l : Array Obj) (d : Nat), j ≤ picks.length ∧ i = .int .i64 j ∧ wr = w0.later l d
    ∧ (w0.later l d).ownsRow w0.heap.size 3 1 (.slice (some ⟨g, 0, none⟩) pn pn) pn ((natI (mergeS ps (picks.take j)).at_).map (Value.int .i64))
    ∧ (w0.later l d).ownsRow (g + 1) 56 4 v (mergeS ps (picks.take j)).out.length (cellsOf (mergeS ps (picks.take j)).out)

set_option maxHeartbeats 4000000 in
set_option maxRecDepth 100000 in
theorem merge_ok (cn cs cy cb : Int) (ps : List (List D4)) (pa : Option Addr) (pn pc : Nat) (picks : List Int) (qa : Option Addr) (qn qc : Nat) (w : World) (hpn : ps.length = pn) (hpm : pn ≤ maxLen) (hP : ListsAt DeedsAt w pa ps) (hqn : picks.length = qn) (hQ : IntsAt .i64 w qa picks) (hE : mergeE cn cs cy cb ps picks = 0) :
    Calls Try.prog 33 #[.agg #[.int .i64 cn, .int .i64 cs, .int .i64 cy, .int .i64 cb], .slice pa pn pc, .slice qa qn qc] w (MergePost cn cs cy cb ps picks w) := by
  have hpe : progsE cn cs cy cb ps = 0 := by
    by_cases h : progsE cn cs cy cb ps = 0
    · exact h
    · exact (if_neg h : mergeE cn cs cy cb ps picks = _).symm.trans hE
  have hq : qn ≤ 200 := by
    have h2 : mergeE cn cs cy cb ps picks = if 200 < picks.length then 2 else 0 := if_pos hpe
    by_cases h : 200 < picks.length
    · rw [if_pos h, hE] at h2; cases h2
    · omega
  have hcl : CfgOK cn cs cy cb ∧ (pn : Int) = cn := by
    unfold progsE at hpe
    by_cases hc : CfgOK cn cs cy cb
    · rw [if_pos (cfgE_ok hc)] at hpe
      by_cases hl : (ps.length : Int) = cn
      · exact ⟨hc, by omega⟩
      · rw [if_neg hl] at hpe; cases hpe
    · rw [cfgE_bad hc] at hpe; simp at hpe
  obtain ⟨hcfg, hl⟩ := hcl
  have hcn : 2 ≤ cn ∧ cn ≤ 8 := ⟨hcfg.1, hcfg.2.1⟩
  have hpn8 : pn ≤ 8 := by omega
  have hpn2 : 2 ≤ pn := by omega
  have hqI : ¬ (200 : Int) < qn := by omega
  have PC := fun w h => progCheck_any cn cs cy cb ps pa pn pc w hpn hpm h
  rw [hpe] at PC
  have HC := Lib.hid PC
  have HPP := Lib.hid hP
  have HPL := Lib.hid hpn
  have HQL := Lib.hid hqn
  have HQ := Lib.hid hQ
  have HE := Lib.hid hE
  have HCL := Lib.hid hl
  obtain ⟨i0, hi, hz0, hz1, hz2⟩ := info_parts info_intM
  obtain ⟨i4, ji, jz0, jz1, jz2⟩ := info_parts info_deed
  clear PC hpe hP hQ hE hpn hqn hl hcfg
  go_enter Try.func33, Try.ntmps33
  go_wp2_with (first
    | (go_at_call 46; refine (HC.out _ (lists_below HPP.out (by repeat (first | exact Below.refl _ _ | apply bs_later | apply bs_alloc | apply bs_drew | apply bs_drewN)))).mono ?_; rintro e w1 ⟨rfl, hb1⟩; obtain ⟨l1, d1, rfl⟩ := later_of hb1; clear hb1)
    | (at_make; refine wpList_make_full _ rfl _ _ 35 rfl (w.heap.size + 1) 3 i0 _ 1 Try.underlying35 hi hz0 hz1 .i64 .i64 _ _ pn rfl rfl rfl rfl ?m1 ?m2 ?m3 ?_))
  case m1 => rw [hz2]; omega
  case m2 => unfold maxLen; omega
  case m3 => simp
  intro w2 hown hgrow
  have hb2 := below_grown (W0 := (w.alloc (.cells #[.int .i64 cn, .int .i64 cs, .int .i64 cy, .int .i64 cb] 42))) (bs_later (Below.refl _ _) _ _) hgrow (fun k hk => by cases hk)
  obtain ⟨l2, d2, rfl⟩ := later_of hb2
  rw [made_ints] at hown
  generalize w.heap.size + 1 + l1.size = g at *
  have HO := Lib.hid hown
  clear hown hgrow hb2
  go_wp2
  have hgb : w.heap.size + 1 ≤ g := by have := (HO.out.lt g rfl).1; exact this
  have HO1 : Hid (((w.alloc (.cells #[.int .i64 cn, .int .i64 cs, .int .i64 cy, .int .i64 cb] 42)).later l2 d2).ownsRow (w.alloc (.cells #[.int .i64 cn, .int .i64 cs, .int .i64 cy, .int .i64 cb] 42)).heap.size 3 1 (.slice (some ⟨g, 0, none⟩) pn pn) pn ((natI (List.replicate pn 0)).map (Value.int .i64))) := Lib.hid (by have h := HO.out; exact ⟨h.1, h.2.imp id fun ⟨b, c, cur, h1, h2, h3⟩ => ⟨b, c, cur, h1, by simpa using h2, h3⟩⟩)
  clear HO

  go_loopw [11, 31] (RelM ps picks g pn (w.alloc (.cells #[.int .i64 cn, .int .i64 cs, .int .i64 cy, .int .i64 cb] 42))) (fun _ i _ => qn - (intOf i).toNat)
  case atStart => exact ⟨0, _, _, by omega, rfl, rfl, by rw [List.take_zero]; show (_ : World).ownsRow _ _ _ _ _ ((natI (List.replicate ps.length 0)).map _); rw [HPL.out]; exact HO1.out, World.ownsRow_nil _ _ _ _⟩
  case round =>
    obtain ⟨j, l, d, hj, rfl, rfl, hown, hout⟩ := hrel
    have HS := Lib.hid (mergeS_ok ps picks j hj)
    have HAO := Lib.hid (own_anyM hown)
    have HOO := Lib.hid (own_anyM hout)
    have HNE := Lib.hid (own_neM hout)
    by_cases hlt : j < qn
    · obtain ⟨k, hk⟩ := get_some (xs := picks) (k := j) (by rw [HQL.out]; exact hlt)
      obtain ⟨bq, offq, rfl, hcq⟩ : ∃ bq offq, qa = some ⟨bq, offq, none⟩ ∧ w.cell? ⟨bq, offq + j, none⟩ = some (.int .i64 k) := by
        rcases HQ.out with h | ⟨b, off, h1, h2⟩
        · subst h; simp at hk
        · exact ⟨b, off, h1, h2 j k hk⟩
      have hinq : inB w bq := lt_of_cell hcq
      have HSN := Lib.hid (mergeS_snoc ps hk)
      have hJ : j + 1 ≤ picks.length := by rw [HQL.out]; exact hlt
      generalize hs : mergeS ps (picks.take j) = s at *
      have HAI := Lib.hid (own_ints hown).2
      have hgf : farB (w.alloc (.cells #[.int .i64 cn, .int .i64 cs, .int .i64 cy, .int .i64 cb] 42)) l g := by have h := (hown.lt g rfl).2; simpa [farB] using h
      cases hpd : pickD ps s k with
      | none =>
        have hst : s.step ps k = s := by unfold St.step; rw [hpd]
        rw [hst] at HSN
        obtain ⟨E, HNX⟩ : ∃ E : Int, Hid (∀ w', ListsAt DeedsAt w' pa ps → IntsAt .i64 w' (some ⟨g, 0, none⟩) (natI s.at_) → Calls Try.prog 44 #[.slice pa pn pc, .slice (some ⟨g, 0, none⟩) pn pn, .int .i64 k] w' (Ret (.tuple #[.agg #[.int .i64 0, .int .i64 0, .int .i64 0, .int .u64 0], .bool false, .int .i64 E]) w')) := by
          by_cases hkk : 0 ≤ k ∧ k < pn
          · obtain ⟨K, rfl⟩ := Int.eq_ofNat_of_zero_le hkk.1
            obtain ⟨P, hP⟩ := get_some (xs := ps) (k := K) (by rw [HPL.out]; omega)
            obtain ⟨t, ht⟩ := get_some (xs := s.at_) (k := K) (by rw [HS.out.len, HPL.out]; omega)
            refine ⟨0, Lib.hid fun w' h1 h2 => next_end hpm HPL.out h1 (by rw [natI_len, HS.out.len, HPL.out]) h2 hP (natI_get ht) (by omega) ?_⟩
            unfold pickD at hpd
            rw [if_neg (by omega)] at hpd
            simp only [Int.toNat_natCast, hP, ht, Option.bind_some] at hpd
            have := List.getElem?_eq_none_iff.1 hpd
            omega
          · exact ⟨4, Lib.hid fun w' h1 h2 => next_out k hpm hpm (by omega)⟩
        clear hpd hst hk hown hout hs
        go_wp2_with (go_at_call 44; refine (HNX.out _ ?n1 ?n2).mono ?_; (case n1 => exact lists_below HPP.out (by repeat (first | exact Below.refl _ _ | apply bs_later | apply bs_alloc | apply bs_drew | apply bs_drewN))); (case n2 => first | exact HAI.out | exact ints_dM HAI.out); rintro e w1 ⟨rfl, hb1⟩; obtain ⟨l3, d3, rfl⟩ := later_of hb1; clear hb1; rw [later_later])
        exact ⟨⟨j + 1, _, _, hJ, by go_num, later_alloc _ _ _ _, by rw [HSN.out]; exact own_push (own_more (HAO.out 0) l3 d3) _ _, by rw [HSN.out]; exact own_push (own_more (HOO.out 0) l3 d3) _ _⟩, by simp [intOf]; omega⟩
      | some y =>
        have hst : s.step ps k = ⟨s.at_.set k.toNat ((s.at_[k.toNat]?).getD 0 + 1), s.out ++ [y]⟩ := by unfold St.step; rw [hpd]
        unfold pickD at hpd
        by_cases hk0 : k < 0
        · rw [if_pos hk0] at hpd; cases hpd
        rw [if_neg hk0] at hpd
        obtain ⟨K, rfl⟩ := Int.eq_ofNat_of_zero_le (by omega : 0 ≤ k)
        rw [Int.toNat_natCast] at hpd hst
        obtain ⟨P, hP, hpd⟩ := Option.bind_eq_some_iff.1 hpd
        obtain ⟨t, ht, hy⟩ := Option.bind_eq_some_iff.1 hpd
        rw [ht, Option.getD_some] at hst
        rw [hst] at HSN
        have hKn : K < pn := by rw [← HPL.out]; exact (List.getElem?_eq_some_iff.1 hP).1
        have hKn' : (K : Int) < pn := by omega
        have HNX : Hid (∀ w', ListsAt DeedsAt w' pa ps → IntsAt .i64 w' (some ⟨g, 0, none⟩) (natI s.at_) → Calls Try.prog 44 #[.slice pa pn pc, .slice (some ⟨g, 0, none⟩) pn pn, .int .i64 K] w' (Ret (.tuple #[.agg #[.int .i64 y.n, .int .i64 y.k, .int .i64 y.a, .int .u64 y.v], .bool true, .int .i64 0]) w')) := Lib.hid fun w' h1 h2 => next_hit hpm HPL.out h1 (by rw [natI_len, HS.out.len, HPL.out]) h2 hP (natI_get ht) hy
        have htm : t < 9223372036854775807 := by
          have h1 := (List.getElem?_eq_some_iff.1 hy).1
          obtain ⟨bp, offp, rfl⟩ := ListsAt.form HPP.out hP
          obtain ⟨_, _, _, h2, h3, _, _⟩ := ListsAt.at HPP.out hP
          unfold maxLen at h3
          omega
        have HTC : Hid (((natI s.at_).map (Value.int .i64))[K]? = some (.int .i64 (t : Int))) := Lib.hid (by rw [List.getElem?_map, natI_get ht]; rfl)
        have hol : s.out.length ≤ 200 := by have h1 := HS.out.out; have h2 := HQL.out; omega
        have HCS : Hid (cellsOf (s.out ++ [y]) = cellsOf s.out ++ [.int .i64 y.n, .int .i64 y.k, .int .i64 y.a, .int .u64 y.v]) := Lib.hid (by rw [cellsOf_snoc]; rfl)
        obtain ⟨yn, yk, ya, yv⟩ := y
        clear hpd hst hk hown hout hs hP hy ht hk0 HQ
        go_wp2_with (first
          | (go_at_call 44; refine (HNX.out _ ?n1 ?n2).mono ?_; (case n1 => exact lists_below HPP.out (by repeat (first | exact Below.refl _ _ | apply bs_later | apply bs_alloc | apply bs_drew | apply bs_drewN))); (case n2 => first | exact HAI.out | exact ints_dM HAI.out); rintro e w1 ⟨rfl, hb1⟩; obtain ⟨l3, d3, rfl⟩ := later_of hb1; clear hb1; rw [later_later])
          | (at_builtin; refine wpList_append_own _ rfl _ _ 60 rfl (g + 1) 56 i4 _ 4 32 Try.underlying60 ji jz0 jz1 jz2 rfl (by decide) _ _ _ rfl (((own_more (HOO.out d) l3 d3).alloc _).alloc _) ⟨_, 0, none⟩ 1 1 [.int .i64 yn, .int .i64 yk, .int .i64 ya, .int .u64 yv] rfl rfl ?c1 ?c2 ?c3 ?c4 ?c5 ?_))
        case c1 => exact four_new (by simp)
        case c2 => intro u hu; simp at hu; rcases hu with rfl | rfl | rfl | rfl <;> rfl
        case c3 => unfold maxLen; omega
        case c4 => omega
        case c5 => have h := ((HAO.out 0).lt g rfl).2; simp at h; simp; omega
        intro v' w1 hown5 hgrow hnil5
        have hb5 := below_grown (W0 := (w.alloc (.cells #[.int .i64 cn, .int .i64 cs, .int .i64 cy, .int .i64 cb] 42))) (by repeat (first | exact Below.refl _ _ | apply bs_later | apply bs_alloc | apply bs_drew | apply bs_drewN)) hgrow (fun g' hg' => by have := ((HOO.out 0).lt g' hg').1; simp; omega)
        have hown6 := (((own_more (HAO.out d) l3 d3).alloc _).alloc _).kept hgrow (.inr (fun h => HNE.out h.symm))
        obtain ⟨l5, d5, rfl⟩ := later_of hb5
        have m0 : ((w.alloc (.cells #[.int .i64 cn, .int .i64 cs, .int .i64 cy, .int .i64 cb] 42)).later l5 d5).cell? ⟨g, K, none⟩ = some (.int .i64 (t : Int)) := by rw [hown6.cellAt K (by omega)]; exact HTC.out
        have mf0 := hown6.frozenAt K
        have mgf : farB (w.alloc (.cells #[.int .i64 cn, .int .i64 cs, .int .i64 cy, .int .i64 cb] 42)) l5 g := by have h := (hown6.lt g rfl).2; simpa [farB] using h
        obtain ⟨l6, d6, e6, -, h6⟩ := own_storeM hown6 (Nat.le_refl _) (by simpa using hgb) K (.int .i64 ((t : Int) + 1))
        have q6 := ownsRow_setCell_other hown5 (a := ⟨g, K, none⟩) (own_neM hown5) (.int .i64 ((t : Int) + 1))
        rw [e6] at q6
        have hnS := natI_set s.at_ K (t + 1)
        rw [show (((t + 1 : Nat) : Int)) = (t : Int) + 1 by omega] at hnS
        rw [hnS] at h6
        rw [← HCS.out] at q6
        have HQ6 := Lib.hid q6
        have HA6 := Lib.hid h6
        have HSN1 := Lib.hid (congrArg St.at_ HSN.out)
        have HSN2 := Lib.hid (congrArg St.out HSN.out)
        clear hown5 hgrow hnil5 hb5 hown6 q6 h6 hnS
        go_wp2
        exact ⟨⟨j + 1, _, _, hJ, by go_num, rfl, by rw [HSN1.out]; exact HA6.out, by rw [HSN2.out, List.length_append]; exact HQ6.out⟩, by simp [intOf]; omega⟩
    · obtain rfl : j = qn := by have := HQL.out; omega
      have htk : picks.take j = picks := List.take_of_length_le (by rw [HQL.out]; exact Nat.le_refl _)
      rw [htk] at HAO HOO hown hout
      have hcap2 := own_capsM hown
      obtain ⟨sa, sc, hv⟩ := own_form hout
      subst hv
      have hcap := own_capsM hout
      have HA2 := Lib.hid (own_ints hown).2
      have HD2 := Lib.hid (own_deeds hout)
      clear hown hout
      go_wp2
      go_ret3
      refine ⟨(by repeat (first | exact Below.refl _ _ | apply bs_later | apply bs_alloc | apply bs_drew | apply bs_drewN)), .inl ⟨HE.out, sa, sc, some ⟨g, 0, none⟩, pn, ?_, hcap.1, hcap.2, ?_, hcap2.2, HD2.out, HA2.out⟩⟩
      · rw [HPL.out]; rfl
      · rw [HPL.out]; exact Nat.le_refl _

set_option maxHeartbeats 1000000 in
set_option maxRecDepth 100000 in
theorem merge_bad (cn cs cy cb : Int) (ps : List (List D4)) (pa : Option Addr) (pn pc : Nat) (picks : List Int) (qa : Option Addr) (qn qc : Nat) (w : World) (hpn : ps.length = pn) (hpm : pn ≤ maxLen) (hP : ListsAt DeedsAt w pa ps) (hqn : picks.length = qn) (hqm : qn ≤ maxLen) (hE : ¬ mergeE cn cs cy cb ps picks = 0) :
    Calls Try.prog 33 #[.agg #[.int .i64 cn, .int .i64 cs, .int .i64 cy, .int .i64 cb], .slice pa pn pc, .slice qa qn qc] w (MergePost cn cs cy cb ps picks w) := by
  have HC := Lib.hid (fun w h => progCheck_any cn cs cy cb ps pa pn pc w hpn hpm h)
  have HPP := Lib.hid hP
  have HE := Lib.hid hE
  have hE1 : mergeE cn cs cy cb ps picks = if progsE cn cs cy cb ps = 0 then (if 200 < qn then 2 else 0) else progsE cn cs cy cb ps := by unfold mergeE; rw [hqn]
  have HE1 := Lib.hid hE1
  clear hP hE hE1 hpn hqn
  unfold maxLen at hqm
  by_cases h0 : progsE cn cs cy cb ps = 0
  · have HE2 : Hid (mergeE cn cs cy cb ps picks = if 200 < qn then 2 else 0) := Lib.hid (by rw [HE1.out, if_pos h0])
    have h200 : 200 < qn := by
      by_cases h : 200 < qn
      · exact h
      · exact absurd (HE2.out.trans (if_neg h)) HE.out
    have h200' : (200 : Int) < qn := by omega
    have HE3 : Hid (mergeE cn cs cy cb ps picks = 2) := Lib.hid (HE2.out.trans (if_pos h200))
    rw [h0] at HC
    clear h0 HE1 HE2
    go_enter Try.func33, Try.ntmps33
    go_wp2_with (go_at_call 46; refine (HC.out _ (lists_below HPP.out (by repeat (first | exact Below.refl _ _ | apply bs_later | apply bs_alloc | apply bs_drew | apply bs_drewN)))).mono ?_; rintro e w1 ⟨rfl, hb1⟩; obtain ⟨l1, d1, rfl⟩ := later_of hb1; clear hb1)
    go_ret3
    exact ⟨(by repeat (first | exact Below.refl _ _ | apply bs_later | apply bs_alloc | apply bs_drew | apply bs_drewN)), .inr ⟨HE.out, by rw [HE3.out]; rfl⟩⟩
  · have HE3 : Hid (mergeE cn cs cy cb ps picks = progsE cn cs cy cb ps) := Lib.hid (by rw [HE1.out, if_neg h0])
    clear HE1
    generalize progsE cn cs cy cb ps = E at *
    have hE0 : (E == 0) = false := by simpa using h0
    have hE1 : (E != 0) = true := by simpa using h0
    go_enter Try.func33, Try.ntmps33
    go_wp2_with (go_at_call 46; refine (HC.out _ (lists_below HPP.out (by repeat (first | exact Below.refl _ _ | apply bs_later | apply bs_alloc | apply bs_drew | apply bs_drewN)))).mono ?_; rintro e w1 ⟨rfl, hb1⟩; obtain ⟨l1, d1, rfl⟩ := later_of hb1; clear hb1)
    go_ret3
    exact ⟨(by repeat (first | exact Below.refl _ _ | apply bs_later | apply bs_alloc | apply bs_drew | apply bs_drewN)), .inr ⟨HE.out, by rw [HE3.out]; rfl⟩⟩
theorem merge_any (cn cs cy cb : Int) (ps : List (List D4)) (pa : Option Addr) (pn pc : Nat) (picks : List Int) (qa : Option Addr) (qn qc : Nat) (w : World) (hpn : ps.length = pn) (hpm : pn ≤ maxLen) (hP : ListsAt DeedsAt w pa ps) (hqn : picks.length = qn) (hqm : qn ≤ maxLen) (hQ : IntsAt .i64 w qa picks) :
    Calls Try.prog 33 #[.agg #[.int .i64 cn, .int .i64 cs, .int .i64 cy, .int .i64 cb], .slice pa pn pc, .slice qa qn qc] w (MergePost cn cs cy cb ps picks w) := by
  by_cases hE : mergeE cn cs cy cb ps picks = 0
  · exact merge_ok cn cs cy cb ps pa pn pc picks qa qn qc w hpn hpm hP hqn hQ hE
  · exact merge_bad cn cs cy cb ps pa pn pc picks qa qn qc w hpn hpm hP hqn hqm hE
end Go.Proofs.Ytffhfpdmfegcpab.prog
