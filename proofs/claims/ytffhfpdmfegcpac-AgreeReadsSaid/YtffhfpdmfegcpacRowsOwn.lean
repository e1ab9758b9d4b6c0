/- Rows of the call's own, no two in one block: what a slice of slices that grow holds. No function of the program is mentioned. -/
import Derived.Test.YtffhfpdmfegcpacMem
import Derived.Test.YtffhfpdmfegcpacBase2
import Derived.Laws.OwnMore
import Derived.Maps.AppendAt
namespace Go.Proofs.Ytffhfpdmfegcpac.rows
open Go.ChangeShapes Go.WideShapes Go.ChangeAt Go.RowKit
open Go.Proofs.Ytffhfpdmfegcpac.base
set_option linter.unusedVariables false
set_option linter.unusedSimpArgs false

/-- the rows vs, all of the call's own behind block g, no two in one block -/
structure OwnRows (w : World) (g : Nat) (e : TypeId) (size : Nat) (vs : List Value) (xss : List (Nat × List Value)) : Prop where
  len : vs.length = xss.length
  own : ∀ (k : Nat) (v : Value) (n : Nat) (xs : List Value), vs[k]? = some v → xss[k]? = some (n, xs) → w.ownsRow (g + 1) e size v n xs
  apart : ∀ (i j : Nat) (u v : Value) (b : Nat), i ≠ j → vs[i]? = some u → vs[j]? = some v → u.ownBlock = some b → v.ownBlock ≠ some b
section
variable {w : World} {g size : Nat} {e : TypeId} {vs : List Value} {xss : List (Nat × List Value)}
theorem OwnRows.nils (w : World) (g : Nat) (e : TypeId) (size n : Nat) : OwnRows w g e size (List.replicate n (.slice none 0 0)) (List.replicate n (0, [])) := by
  refine ⟨by simp, ?_, ?_⟩
  · intro k v m xs hv hx
    rw [List.getElem?_replicate] at hv hx
    split at hv
    · rename_i hk
      rw [if_pos hk] at hx
      injection hv with hv; injection hx with hx; injection hx with h1 h2
      subst hv; subst h1; subst h2
      exact World.ownsRow_nil _ _ _ _
    · cases hv
  · intro i j u v b hij hu hv hub
    rw [List.getElem?_replicate] at hu
    split at hu
    · injection hu with hu; subst hu; cases hub
    · cases hu
theorem OwnRows.map {w' : World} (h : OwnRows w g e size vs xss) (hm : ∀ v n xs, w.ownsRow (g + 1) e size v n xs → w'.ownsRow (g + 1) e size v n xs) : OwnRows w' g e size vs xss :=
  ⟨h.len, fun k v n xs hv hx => hm _ _ _ (h.own k v n xs hv hx), h.apart⟩
theorem OwnRows.more {W : World} {l : Array Obj} {d : Nat} (h : OwnRows (W.later l d) g e size vs xss) (l' : Array Obj) (d' : Nat) : OwnRows (W.later (l ++ l') d') g e size vs xss := h.map fun v n xs hx => own_more hx l' d'
theorem OwnRows.alloc (h : OwnRows w g e size vs xss) (o : Obj) : OwnRows (w.alloc o) g e size vs xss := h.map fun v n xs hx => hx.alloc o
theorem OwnRows.later (h : OwnRows w g e size vs xss) (l : Array Obj) (d : Nat) : OwnRows (w.later l d) g e size vs xss := h.map fun v n xs hx => own_later hx
theorem OwnRows.any {W : World} {l : Array Obj} {d : Nat} (h : OwnRows (W.later l d) g e size vs xss) : ∀ d', OwnRows (W.later l d') g e size vs xss := fun _ => h.map fun v n xs hx => hx
theorem OwnRows.kept {w' : World} (h : OwnRows w g e size vs xss) (hg : w.grownBy w' (some g)) : OwnRows w' g e size vs xss :=
  h.map fun v n xs hx => hx.kept hg (.inr fun hb => by have := (hx.lt g hb).1; omega)
theorem OwnRows.put {w' : World} {k n' : Nat} {v v' : Value} {xs' : List Value} (h : OwnRows w g e size vs xss) (hk : vs[k]? = some v) (hgr : w.grownBy w' v.ownBlock) (hown : w'.ownsRow (g + 1) e size v' n' xs') (hat : v'.ownBlock = v.ownBlock ∨ v'.ownBlock = some w.heap.size) :
    OwnRows w' g e size (vs.set k v') (xss.set k (n', xs')) := by
  have hkl : k < vs.length := (List.getElem?_eq_some_iff.1 hk).1
  have lt : ∀ (j : Nat) (u : Value) (b : Nat), vs[j]? = some u → u.ownBlock = some b → b < w.heap.size := by
    intro j u b hu hb
    obtain ⟨⟨n, xs⟩, hx⟩ := get_some (xs := xss) (k := j) (by rw [← h.len]; exact (List.getElem?_eq_some_iff.1 hu).1)
    exact ((h.own j u n xs hu hx).lt b hb).2
  have fresh : ∀ (j : Nat) (u : Value) (b : Nat), j ≠ k → vs[j]? = some u → u.ownBlock = some b → v'.ownBlock ≠ some b := by
    intro j u b hj hu hb hv
    rcases hat with hat | hat
    · exact h.apart j k u v b hj hu hk hb (hat ▸ hv)
    · rw [hv] at hat
      injection hat with hat
      have := lt j u b hu hb
      omega
  refine ⟨by simp [h.len], ?_, ?_⟩
  · intro j u n xs hu hx
    by_cases hj : k = j
    · subst hj
      rw [List.getElem?_set_self hkl] at hu
      rw [List.getElem?_set_self (by rw [← h.len]; exact hkl)] at hx
      injection hu with hu; injection hx with hx; injection hx with h1 h2
      subst hu; subst h1; subst h2
      exact hown
    · rw [List.getElem?_set_ne hj] at hu hx
      refine (h.own j u n xs hu hx).kept hgr ?_
      cases hb : u.ownBlock with
      | none => exact .inl rfl
      | some b => exact .inr fun hb2 => h.apart j k u v b (fun e => hj e.symm) hu hk hb hb2.symm
  · intro i j u z b hij hu hz hb
    by_cases hi : k = i
    · subst hi
      rw [List.getElem?_set_self hkl] at hu
      injection hu with hu; subst hu
      rw [List.getElem?_set_ne hij] at hz
      exact fun hzb => fresh j z b (fun e => hij e.symm) hz hzb hb
    · rw [List.getElem?_set_ne hi] at hu
      by_cases hj : k = j
      · subst hj
        rw [List.getElem?_set_self hkl] at hz
        injection hz with hz; subst hz
        exact fresh i u b hij hu hb
      · rw [List.getElem?_set_ne hj] at hz
        exact h.apart i j u z b hij hu hz hb
theorem OwnRows.put2 {w' : World} {k n' b c : Nat} {v : Value} {xs' : List Value} (h : OwnRows w g e size vs xss) (hk : vs[k]? = some v) (hgr : w.grownBy w' v.ownBlock) (hown : w'.ownsRow (g + 1) e size (.slice (some ⟨b, 0, none⟩) n' c) n' xs') (hat : v.ownBlock = some b ∨ b = w.heap.size) :
    OwnRows w' g e size (vs.set k (.slice (some ⟨b, 0, none⟩) n' c)) (xss.set k (n', xs')) :=
  h.put hk hgr hown (hat.imp (fun h => h.symm) (fun h => by rw [h]; rfl))
theorem made_nils (n : Nat) : (madeCells #[.slice none 0 0] n).toList = List.replicate n (.slice none 0 0) := by
  apply List.ext_getElem?
  intro j
  by_cases hj : j < n
  · simp [madeCells, hj, Nat.mod_one]
  · simp [madeCells, hj]
end
end Go.Proofs.Ytffhfpdmfegcpac.rows
