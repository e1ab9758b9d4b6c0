/- What package agree computes, as laws of lists; a world that came in. -/
import Derived.Test.YtffhfpdmfegcpacCacheFind
import Derived.Test.YtffhfpdmfegcpacLists
import Derived.Test.YtffhfpdmfegcpacTurn
namespace Go.Proofs.Ytffhfpdmfegcpac.agree
open Go.ChangeShapes Go.WideShapes Go.ChangeAt Go.RowKit
open Go.Proofs.Ytffhfpdmfegcpac.base Go.Proofs.Ytffhfpdmfegcpac.flat Go.Proofs.Ytffhfpdmfegcpac.table Go.Proofs.Ytffhfpdmfegcpac.prog Go.Proofs.Ytffhfpdmfegcpac.same Go.Proofs.Ytffhfpdmfegcpac.addr Go.Proofs.Ytffhfpdmfegcpac.bank Go.Proofs.Ytffhfpdmfegcpac.ways Go.Proofs.Ytffhfpdmfegcpac.state Go.Proofs.Ytffhfpdmfegcpac.turn
set_option linter.unusedVariables false
set_option linter.unusedSimpArgs false

/-! ### a world: its caches, and its memory -/
def worldA (a : Option Addr) (n c : Nat) (xs : List Int) : Array Value := (Value.slice a n c :: xs.map (Value.int .u64)).toArray
theorem worldA_size {a : Option Addr} {n c : Nat} {xs : List Int} (h : xs.length = 64) : (worldA a n c xs).size = 65 := by simp [worldA, h]
theorem worldA_one (a : Option Addr) (n c : Nat) (xs : List Int) : (worldA a n c xs).all (·.oneCell') = true := by
  rw [Array.all_eq_true_iff_forall_mem]
  intro v hv
  simp only [worldA, List.mem_toArray, List.mem_cons, List.mem_map] at hv
  rcases hv with rfl | ⟨x, _, rfl⟩ <;> rfl
theorem worldA_head (a : Option Addr) (n c : Nat) (xs : List Int) : (worldA a n c xs)[0]? = some (.slice a n c) := rfl
theorem worldA_at {a : Option Addr} {n c : Nat} {xs : List Int} {i : Nat} {x : Int} (h : xs[i]? = some x) : (worldA a n c xs)[i + 1]? = some (.int .u64 x) := by simp [worldA, h]
/-- the caches' list -/
def CachesAt (w : World) (a : Option Addr) (hs : List (List R4)) : Prop := ListsAt CacheAt w a hs
theorem CachesAt.below {w w' : World} {a : Option Addr} {hs : List (List R4)} (h : CachesAt w a hs) (hb : Below w.heap.size w w') : CachesAt w' a hs := ListsAt.below (Q := CacheAt) (fun hb h => CacheAt.below h hb) h hb

/-! ### who holds a line -/
structure H7 where
  node : Nat
  x : W6
def H7.cells (h : H7) : List Value := .int .i64 (h.node : Int) :: h.x.cells
def dataL (x : W6) : List Int := [x.a, x.b, x.c, x.d]
def hasC (cs L : Int) (rs : List R4) : Option W6 := (rs[(L % cs).toNat]?).bind fun r => r.ways.find? (hasL L)
def oneH (i : Nat) (o : Option W6) : List H7 := match o with | some x => [⟨i, x⟩] | none => []
def holdF (cs L : Int) : Nat → List (List R4) → List H7
  | _, [] => []
  | i, h :: hs => oneH i (hasC cs L h) ++ holdF cs L (i + 1) hs
def holdL (cs : Int) (hs : List (List R4)) (L : Int) : List H7 := holdF cs L 0 hs
theorem holdF_snoc (cs L : Int) (h : List R4) : ∀ (hs : List (List R4)) (i : Nat), holdF cs L i (hs ++ [h]) = holdF cs L i hs ++ oneH (i + hs.length) (hasC cs L h)
  | [], i => by simp [holdF]
  | g :: hs, i => by
    simp only [List.cons_append, holdF, holdF_snoc cs L h hs (i + 1), List.length_cons, List.append_assoc]
    rw [show i + 1 + hs.length = i + (hs.length + 1) by omega]
theorem holdL_snoc (cs L : Int) (hs : List (List R4)) (h : List R4) : holdL cs (hs ++ [h]) L = holdL cs hs L ++ oneH hs.length (hasC cs L h) := by
  unfold holdL; rw [holdF_snoc, Nat.zero_add]
theorem holdF_len (cs L : Int) : ∀ (hs : List (List R4)) (i : Nat), (holdF cs L i hs).length ≤ hs.length
  | [], i => Nat.le_refl _
  | h :: hs, i => by
    have := holdF_len cs L hs (i + 1)
    have h1 : (oneH i (hasC cs L h)).length ≤ 1 := by unfold oneH; split <;> simp
    simp only [holdF, List.length_append, List.length_cons]
    omega
theorem holdF_mem {cs L : Int} : ∀ {hs : List (List R4)} {i : Nat} {y : H7}, y ∈ holdF cs L i hs ↔ ∃ (k : Nat) (h : List R4), hs[k]? = some h ∧ y.node = i + k ∧ hasC cs L h = some y.x
  | [], i, y => by simp [holdF]
  | h :: hs, i, y => by
    simp only [holdF, List.mem_append, holdF_mem (hs := hs) (i := i + 1)]
    constructor
    · rintro (h1 | ⟨k, g, h1, h2, h3⟩)
      · cases hc : hasC cs L h with
        | none => rw [hc] at h1; simp [oneH] at h1
        | some x =>
          rw [hc] at h1
          obtain rfl := List.mem_singleton.1 (show y ∈ [(⟨i, x⟩ : H7)] from h1)
          exact ⟨0, h, rfl, rfl, hc⟩
      · exact ⟨k + 1, g, by simpa using h1, by omega, h3⟩
    · rintro ⟨k, g, h1, h2, h3⟩
      cases k with
      | zero =>
        obtain rfl : h = g := by simpa using h1
        left
        rw [h3]
        exact List.mem_singleton.2 (show y = (⟨i, y.x⟩ : H7) by cases y; simp at h2; subst h2; rfl)
      | succ k => exact .inr ⟨k, g, by simpa using h1, by omega, h3⟩
theorem holdL_mem {cs L : Int} {hs : List (List R4)} {y : H7} : y ∈ holdL cs hs L ↔ ∃ h, hs[y.node]? = some h ∧ hasC cs L h = some y.x := by
  unfold holdL
  rw [holdF_mem]
  constructor
  · rintro ⟨k, h, h1, h2, h3⟩
    rw [Nat.zero_add] at h2
    exact ⟨h, by rw [h2]; exact h1, h3⟩
  · rintro ⟨h, h1, h2⟩
    exact ⟨y.node, h, h1, by omega, h2⟩
theorem hasC_has {cs L : Int} {rs : List R4} {x : W6} (h : hasC cs L rs = some x) : hasL L x = true := by
  unfold hasC at h
  obtain ⟨r, _, h⟩ := Option.bind_eq_some_iff.1 h
  exact List.find?_some h
theorem hasC_mem {cs L : Int} {rs : List R4} {x : W6} (h : hasC cs L rs = some x) : ∃ r ∈ rs, x ∈ r.ways := by
  unfold hasC at h
  obtain ⟨r, h1, h⟩ := Option.bind_eq_some_iff.1 h
  exact ⟨r, List.mem_of_getElem? h1, List.mem_of_find?_eq_some h⟩
/-- what row.Find's number says -/
theorem hasC_of {cs L : Int} {rs : List R4} {i : Nat} {r : R4} (hi : L % cs = i) (hr : rs[i]? = some r) : (hasC cs L rs = none ∧ findW L r.ways < 0) ∨ ∃ (k : Nat) (x : W6), hasC cs L rs = some x ∧ findW L r.ways = k ∧ r.ways[k]? = some x := by
  have e : hasC cs L rs = r.ways.find? (hasL L) := by unfold hasC; rw [hi, Int.toNat_natCast, hr]; rfl
  rw [e]
  rcases findW_cases L r.ways with ⟨h1, h2⟩ | ⟨p, x, h1, h2, h3, h4⟩
  · left
    exact ⟨List.find?_eq_none.2 fun x hx => by simp [h2 x hx], by omega⟩
  · right
    refine ⟨p, x, ?_, h1, h2⟩
    rw [List.find?_eq_some_iff_getElem]
    obtain ⟨hp, hx⟩ := List.getElem?_eq_some_iff.1 h2
    exact ⟨h3, p, hp, hx, fun j hj => by rw [h4 j _ hj (List.getElem?_eq_getElem (by omega))]; rfl⟩

/-! ### the check of a line -/
def lineL (xs : List Int) (L : Nat) : List Int := (xs.drop (4 * L)).take 4
def apart1 (pre : List H7) (x : H7) : Bool := pre.all fun y => besideB x.x.s y.x.s
def apartL : List H7 → List H7 → Bool
  | _, [] => true
  | pre, x :: l => apart1 pre x && apartL (pre ++ [x]) l
theorem apartL_snoc (x : H7) : ∀ (l pre : List H7), apartL pre (l ++ [x]) = (apartL pre l && apart1 (pre ++ l) x)
  | [], pre => by simp [apartL]
  | y :: l, pre => by simp [apartL, apartL_snoc x l (pre ++ [y]), Bool.and_assoc]
def ownedL (l : List H7) : Bool := l.any fun x => amongB x.x.s [3, 4]
def headL (l : List H7) : List Int := match l with | [] => [] | x :: _ => dataL x.x
def fit1 (xs : List Int) (L : Nat) (l : List H7) (x : H7) : Bool := decide (dataL x.x = headL l) && (ownedL l || decide (dataL x.x = lineL xs L))
def chkE (xs : List Int) (L : Nat) (l : List H7) : Int := if apartL [] l = false then 8 else if (l.all (fit1 xs L l)) = false then 3 else 0

/-! ### the check of a world -/
noncomputable def formE (cn cs cy cb : Int) (hs : List (List R4)) : Int := if cfgE cn cs cy cb = 0 then (if (hs.length : Int) = cn then fnz (fun _ rs => cacheE cn cs cy cb rs) 0 hs else 3) else cfgE cn cs cy cb
theorem formE_ok {cn cs cy cb : Int} {hs : List (List R4)} (h : formE cn cs cy cb hs = 0) : CfgOK cn cs cy cb ∧ (hs.length : Int) = cn ∧ ∀ h ∈ hs, cacheE cn cs cy cb h = 0 := by
  unfold formE at h
  by_cases hc : CfgOK cn cs cy cb
  · rw [if_pos (cfgE_ok hc)] at h
    by_cases hl : (hs.length : Int) = cn
    · rw [if_pos hl] at h
      refine ⟨hc, hl, fun g hg => ?_⟩
      obtain ⟨i, hi⟩ := List.getElem?_of_mem hg
      exact fnz_all h i g hi
    · rw [if_neg hl] at h; cases h
  · rw [cfgE_bad hc] at h; simp at h
def lineE (cs : Int) (hs : List (List R4)) (xs : List Int) (L : Nat) : Int := chkE xs L (holdL cs hs L)
/-- the first line that is not right, of so many from s on: its fault, and its number -/
def scanE (f : Nat → Int) : Nat → Nat → Int × Nat
  | _, 0 => (0, 0)
  | s, n + 1 => if f s = 0 then scanE f (s + 1) n else (f s, s)
theorem scanE_at {f : Nat → Int} : ∀ {n s k : Nat}, (∀ i, s ≤ i → i < k → f i = 0) → s ≤ k → k < s + n → ¬ f k = 0 → scanE f s n = (f k, k)
  | 0, s, k, _, h1, h2, _ => by omega
  | n + 1, s, k, h, h1, h2, hk => by
    unfold scanE
    by_cases e : k = s
    · subst e; rw [if_neg hk]
    · rw [if_pos (h s (by omega) (by omega))]
      exact scanE_at (fun i hi hik => h i (by omega) hik) (by omega) (by omega) hk
theorem scanE_no {f : Nat → Int} : ∀ {n s : Nat}, (∀ i, s ≤ i → i < s + n → f i = 0) → scanE f s n = (0, 0)
  | 0, _, _ => rfl
  | n + 1, s, h => by
    unfold scanE
    rw [if_pos (h s (by omega) (by omega))]
    exact scanE_no fun i hi hin => h i (by omega) (by omega)
theorem scanE_all {f : Nat → Int} : ∀ {n s : Nat}, (scanE f s n).1 = 0 → ∀ i, s ≤ i → i < s + n → f i = 0
  | 0, _, _, i, h1, h2 => by omega
  | n + 1, s, h, i, h1, h2 => by
    unfold scanE at h
    by_cases h0 : f s = 0
    · rw [if_pos h0] at h
      by_cases e : i = s
      · subst e; exact h0
      · exact scanE_all h i (by omega) (by omega)
    · rw [if_neg h0] at h; exact absurd h h0
noncomputable def agreeP (cn cs cy cb : Int) (hs : List (List R4)) (xs : List Int) : Int × Nat := if formE cn cs cy cb hs = 0 then scanE (lineE cs hs xs) 0 16 else (formE cn cs cy cb hs, 0)
end Go.Proofs.Ytffhfpdmfegcpac.agree
