/- The contract of prog.Next, case by case. -/
import Derived.Test.YtffhfpdmfegcpabProgLaw
import Derived.Deep.RegionWith
namespace Go.Proofs.Ytffhfpdmfegcpab.prog
open Go.ChangeShapes Go.WideShapes Go.ChangeAt Go.RowKit
open Go.Proofs.Ytffhfpdmfegcpab.base Go.Proofs.Ytffhfpdmfegcpab.flat Go.Proofs.Ytffhfpdmfegcpab.table Go.Proofs.Ytffhfpdmfegcpab.addr Go.Proofs.Ytffhfpdmfegcpab.atomic
set_option linter.unusedVariables false
set_option linter.unusedSimpArgs false

section
variable {pa a : Option Addr} {pn pc m c : Nat} {w : World}
set_option maxHeartbeats 1000000 in
set_option maxRecDepth 100000 in
theorem next_out (node : Int) (hpm : pn ≤ maxLen) (hmm : m ≤ maxLen) (h : node < 0 ∨ (0 ≤ node ∧ (pn : Int) ≤ node) ∨ (0 ≤ node ∧ node < pn ∧ ¬ m = pn)) :
    Calls Try.prog 44 #[.slice pa pn pc, .slice a m c, .int .i64 node] w (Ret (.tuple #[(.agg #[.int .i64 0, .int .i64 0, .int .i64 0, .int .u64 0]), .bool false, .int .i64 4]) w) := by
  unfold maxLen at hpm hmm
  rcases h with h | ⟨h1, h2⟩ | ⟨h1, h2, h3⟩
  · go_enter Try.func44, Try.ntmps44
    go_wp2
    go_returns
    exact ⟨rfl, (by repeat (first | exact Below.refl _ _ | apply bs_later | apply bs_alloc | apply bs_drew | apply bs_drewN))⟩
  · go_enter Try.func44, Try.ntmps44
    go_wp2
    go_returns
    exact ⟨rfl, (by repeat (first | exact Below.refl _ _ | apply bs_later | apply bs_alloc | apply bs_drew | apply bs_drewN))⟩
  · have h3' : ((m : Int) != (pn : Int)) = true := by simpa using (by omega : ¬ (m : Int) = pn)
    clear h3
    go_enter Try.func44, Try.ntmps44
    go_wp2
    go_returns
    exact ⟨rfl, (by repeat (first | exact Below.refl _ _ | apply bs_later | apply bs_alloc | apply bs_drew | apply bs_drewN))⟩
variable {ps : List (List D4)} {ats : List Int} {k : Nat} {P : List D4}
set_option maxHeartbeats 1000000 in
set_option maxRecDepth 100000 in
theorem next_neg (hpm : pn ≤ maxLen) (hpn : ps.length = pn) (hm : ats.length = pn) (hA : IntsAt .i64 w a ats) (hk : k < pn) {t : Int} (ht : ats[k]? = some t) (h : t < 0) :
    Calls Try.prog 44 #[.slice pa pn pc, .slice a pn c, .int .i64 k] w (Ret (.tuple #[(.agg #[.int .i64 0, .int .i64 0, .int .i64 0, .int .u64 0]), .bool false, .int .i64 4]) w) := by
  unfold maxLen at hpm
  have hk' : (k : Int) < pn := by omega
  have hbe : ((pn : Int) != (pn : Int)) = false := by simp
  rcases hA with hA | ⟨b, off, rfl, hA⟩
  · subst hA; simp at ht
  · have hc := hA k t ht
    have hin : inB w b := lt_of_cell hc
    clear hA ht hm hpn
    go_enter Try.func44, Try.ntmps44
    go_wp2
    go_returns
    exact ⟨rfl, (by repeat (first | exact Below.refl _ _ | apply bs_later | apply bs_alloc | apply bs_drew | apply bs_drewN))⟩
set_option maxHeartbeats 1000000 in
set_option maxRecDepth 100000 in
theorem next_end (hpm : pn ≤ maxLen) (hpn : ps.length = pn) (hP : ListsAt DeedsAt w pa ps) (hm : ats.length = pn) (hA : IntsAt .i64 w a ats) (hk : ps[k]? = some P) {t : Int} (ht : ats[k]? = some t) (h0 : 0 ≤ t) (h : (P.length : Int) ≤ t) :
    Calls Try.prog 44 #[.slice pa pn pc, .slice a pn c, .int .i64 k] w (Ret (.tuple #[(.agg #[.int .i64 0, .int .i64 0, .int .i64 0, .int .u64 0]), .bool false, .int .i64 0]) w) := by
  unfold maxLen at hpm
  have hkn : k < pn := by rw [← hpn]; exact (List.getElem?_eq_some_iff.1 hk).1
  have hk' : (k : Int) < pn := by omega
  have hbe : ((pn : Int) != (pn : Int)) = false := by simp
  obtain ⟨bp, offp, rfl⟩ := ListsAt.form hP hk
  obtain ⟨qa, qc, hcell, hq1, hq2, hq3, hq4⟩ := ListsAt.at hP hk
  have hin2 : inB w bp := lt_of_cell hcell
  unfold maxLen at hq2
  rcases hA with hA | ⟨b, off, rfl, hA⟩
  · subst hA; simp at ht
  · have hc := hA k t ht
    have hin : inB w b := lt_of_cell hc
    clear hA ht hm hpn hP hk hq3 hq4
    go_enter Try.func44, Try.ntmps44
    go_wp2
    go_quiet (fail)
    go_wp2
    go_returns
    exact ⟨rfl, (by repeat (first | exact Below.refl _ _ | apply bs_later | apply bs_alloc | apply bs_drew | apply bs_drewN))⟩
set_option maxHeartbeats 1000000 in
set_option maxRecDepth 100000 in
theorem next_hit (hpm : pn ≤ maxLen) (hpn : ps.length = pn) (hP : ListsAt DeedsAt w pa ps) (hm : ats.length = pn) (hA : IntsAt .i64 w a ats) (hk : ps[k]? = some P) {t : Nat} (ht : ats[k]? = some (t : Int)) {y : D4} (hy : P[t]? = some y) :
    Calls Try.prog 44 #[.slice pa pn pc, .slice a pn c, .int .i64 k] w (Ret (.tuple #[.agg #[.int .i64 y.n, .int .i64 y.k, .int .i64 y.a, .int .u64 y.v], .bool true, .int .i64 0]) w) := by
  unfold maxLen at hpm
  have hkn : k < pn := by rw [← hpn]; exact (List.getElem?_eq_some_iff.1 hk).1
  have htl : t < P.length := (List.getElem?_eq_some_iff.1 hy).1
  have htl' : (t : Int) < P.length := by omega
  have htl3 : ¬ (P.length : Int) ≤ t := by omega
  have htl4 : ¬ P.length ≤ t := by omega
  have hk' : (k : Int) < pn := by omega
  have hbe : ((pn : Int) != (pn : Int)) = false := by simp
  obtain ⟨bp, offp, rfl⟩ := ListsAt.form hP hk
  obtain ⟨qa, qc, hcell, hq1, hq2, hq3, hq4⟩ := ListsAt.at hP hk
  have hin2 : inB w bp := lt_of_cell hcell
  unfold maxLen at hq2
  obtain ⟨b2, off2, rfl⟩ := RowsAt.form hq4 (i := t) (r := y.cells) (by simp [hy])
  obtain ⟨e0, e1, e2, e3⟩ := DeedsAt.at hq4 hy
  have hin3 : inB w b2 := lt_of_cell e0
  rcases hA with hA | ⟨b, off, rfl, hA⟩
  · subst hA; simp at ht
  · have hc := hA k t ht
    have hin : inB w b := lt_of_cell hc
    clear hA ht hm hpn hP hk hq3 hq4 hy
    go_enter Try.func44, Try.ntmps44
    go_wp2
    go_quiet (fail)
    go_wp2
    go_region_with (fail)
    all_goals
      go_wp2
      go_returns
      exact ⟨rfl, (by repeat (first | exact Below.refl _ _ | apply bs_later | apply bs_alloc | apply bs_drew | apply bs_drewN))⟩
end
end Go.Proofs.Ytffhfpdmfegcpab.prog
