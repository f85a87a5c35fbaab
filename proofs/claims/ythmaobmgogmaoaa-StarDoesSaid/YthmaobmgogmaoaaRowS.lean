/-
  Slices whose elements have several cells.
-/
import Derived.Test.YthmaobmgogmaoaaCursor
import Derived.Deep.Strs
import Derived.Deep.SlicePairs
import Derived.Lib.SmallJoins
namespace Go.Proofs.Ythmaobmgogmaoaa
open Go.RowKit
set_option linter.unusedSimpArgs false
set_option linter.unusedVariables false

/-- A slice whose elements, of sz cells each, read as the list l. -/
def RdS {α : Type} (f : α → List Value) (sz : Nat) (w : World) (ad : Option Addr) (cap : Nat) (l : List α) : Prop :=
  l.length ≤ cap ∧ cap ≤ 9223372036854775807 ∧ ∀ i (h : i < l.length), ∃ b off, ad = some ⟨b, off, none⟩ ∧ ∀ j, j < sz → w.cell? ⟨b, off + i * sz + j, none⟩ = (f l[i])[j]?

section
variable {α : Type} {f : α → List Value} {sz : Nat} {w w' : World} {ad : Option Addr} {cap : Nat} {l : List α}
theorem RdS.lt (h : RdS f sz w ad cap l) (hs : 0 < sz) (hf : ∀ x, (f x).length = sz) : ∀ x, ad = some x → l ≠ [] → x.block < w.heap.size := by
  intro x hx hne
  have h0 : 0 < l.length := by cases l with | nil => exact (hne rfl).elim | cons y r => simp
  obtain ⟨b, off, rfl, hc⟩ := h.2.2 0 h0
  cases hx
  have := hc 0 hs
  rw [List.getElem?_eq_getElem (by rw [hf]; exact hs)] at this
  exact World.block_lt_of_cell? w ⟨b, off + 0 * sz + 0, none⟩ this
theorem RdS.keep (h : RdS f sz w ad cap l) (hf : ∀ x, (f x).length = sz) {S : List Nat} (k : Kp S w w') (hn : ∀ x, ad = some x → l ≠ [] → x.block ∉ S) : RdS f sz w' ad cap l := by
  refine ⟨h.1, h.2.1, fun i hi => ?_⟩
  obtain ⟨b, off, rfl, hc⟩ := h.2.2 i hi
  refine ⟨b, off, rfl, fun j hj => ?_⟩
  have := hc j hj
  rw [List.getElem?_eq_getElem (by rw [hf]; exact hj)] at this ⊢
  exact k.cell this (hn ⟨b, off, none⟩ rfl (by rintro rfl; simp at hi))
theorem RdS.keep0 (h : RdS f sz w ad cap l) (hf : ∀ x, (f x).length = sz) (k : Kp [] w w') : RdS f sz w' ad cap l := h.keep hf k (by simp)
theorem RdS.nil (w : World) (f : α → List Value) (sz : Nat) : RdS f sz w none 0 [] := ⟨by simp, by omega, fun i hi => by simp at hi⟩
end

section
open Go.Deep Go.Joins
variable {H : Type} {enc : TypeId × Value → H} {P : Program} {w : World} {base : Nat} {spare : Nat → Bool} {held : Bool}
/-- A slice that came in, read element by element. -/
theorem open_rows {α : Type} [Inhabited α] (f : α → List Value) (sz : Nat) (Q : α → Prop) {t e : TypeId} {ad : Option Addr} {len cap fuel : Nat} {x : DataW H × List MemPlace} (ht : P.underlying t = some (.slice e)) (hc : P.cellsOf e = sz) (hsz : 0 < sz) (hf : ∀ x, (f x).length = sz)
    (hel : ∀ n cs y, cs.length = sz → DataW.trod enc P w base spare held n e cs = some y → ∃ x : α, cs = f x ∧ Q x)
    (h : DataW.trod enc P w base spare held fuel t [.slice ad len cap] = some x) : ∃ l : List α, l.length = len ∧ RdS f sz w ad cap l ∧ ∀ y ∈ l, Q y := by
  rcases open_slice ht h with ⟨h0, -⟩ | ⟨a, len', cap', m, n, D, Pl, h0, hb, hl, hm, hmm, rfl, hx⟩
  · simp at h0
    obtain ⟨rfl, rfl, rfl⟩ := h0
    exact ⟨[], rfl, RdS.nil _ _ _, by simp⟩
  · simp at h0
    obtain ⟨rfl, rfl, rfl⟩ := h0
    have hlm : len ≤ m := by rw [hmm]; split <;> omega
    obtain ⟨X, hX⟩ := choose_lt (α := α) (p := fun i y => (∀ j, j < sz → w.cell? (a.add (i * sz + j)) = (f y)[j]?) ∧ Q y) (n := len) (fun i hi => by
      obtain ⟨cs', h1, h2⟩ := hx i (by omega)
      rw [hc] at h1
      obtain ⟨_, hlen, hcell⟩ := World.cells?_some h1
      obtain ⟨y, rfl, hq⟩ := hel _ _ _ hlen h2
      refine ⟨y, fun j hj => ?_, hq⟩
      have := hcell j hj
      rwa [add_add] at this)
    refine ⟨(List.range len).map X, by simp, ⟨by simpa using hl, by unfold maxLen at hm; omega, fun i hi => ?_⟩, fun y hy => ?_⟩
    · simp at hi
      have h0 := (hX 0 (by omega)).1 0 hsz
      rw [List.getElem?_eq_getElem (by rw [hf]; exact hsz)] at h0
      obtain ⟨b, off, spot⟩ := a
      have hspot : spot = none := by simpa [Addr.add] using World.cell?_spot h0
      subst hspot
      refine ⟨b, off, rfl, fun j hj => ?_⟩
      have := (hX i hi).1 j hj
      rw [Addr.add_lit] at this
      rw [Nat.add_assoc, this]; simp
    · obtain ⟨i, hi, rfl⟩ := List.mem_map.1 hy
      exact (hX i (by simpa using hi)).2
end
end Go.Proofs.Ythmaobmgogmaoaa
