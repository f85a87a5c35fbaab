/-
  Writing into an element of a slice of the call's own.
-/
import Derived.Test.YthmaobmgogmaoaaRowO
import Derived.Deep.MidRow
namespace Go.Proofs.Ythmaobmgogmaoaa
open Go.RowKit
set_option linter.unusedSimpArgs false
set_option linter.unusedVariables false

section
variable {α : Type} {f : α → List Value} {sz : Nat} {w w' : World} {base : Nat} {e : TypeId} {ad : Option Addr} {cap : Nat} {l : List α}
theorem OwnS.write (h : OwnS f sz w base e ad cap l) (L : Lies f sz) {i : Nat} (hi : i < l.length) (y : α) (j0 : Nat) (vs : List Value) (hb : j0 + vs.length ≤ sz)
    (hv : ∀ j, j < sz → (f y)[j]? = if j0 ≤ j ∧ j < j0 + vs.length then vs[j - j0]? else (f l[i])[j]?) :
    ∃ g, ad = some ⟨g, 0, none⟩ ∧ g ∈ ob ad cap ∧ base ≤ g ∧ w.there g (i * sz + j0) vs.length ∧ OwnS f sz (w.setCells g (i * sz + j0) vs) base e ad cap (l.set i y) ∧ Kp [g] w (w.setCells g (i * sz + j0) vs) := by
  rcases h with ⟨h1, h2⟩ | ⟨g, cur, rfl, h1, h2, h3, h4, h5, h6⟩
  · subst h2; simp at hi
  · have hs : (i + 1) * sz ≤ l.length * sz := Nat.mul_le_mul_right _ hi
    have hs2 : l.length * sz ≤ cap * sz := Nat.mul_le_mul_right _ h4
    rw [Nat.succ_mul] at hs
    have ho : i * sz + j0 + vs.length ≤ cur.size := by omega
    obtain ⟨e1, e2, e3⟩ := setCells_eq g e vs (i * sz + j0) cur w h2 ho
    refine ⟨g, rfl, by simp [ob, show ¬ cap = 0 by omega], h1, fun j hj => ⟨?_, frozen_of_row w g _ cur e h2⟩, .inr ⟨g, _, rfl, h1, e1, ?_, by simpa using h4, h5, ?_⟩, e2⟩
    · rw [cell_of_row w g _ cur e _ h2, Array.getElem?_eq_getElem (by omega)]; rfl
    · have e4 : cur.toList.length = cur.size := Array.length_toList
      rw [List.size_toArray, List.length_append, List.length_append, List.length_take, List.length_drop]
      omega
    · have e4 : cur.toList.length = cur.size := Array.length_toList
      simp only [List.length_set]
      have hp := L.pos
      have ht : (cur.toList.take (i * sz + j0)).length = i * sz + j0 := by rw [List.length_take]; omega
      have ha : (cur.toList.take (i * sz + j0) ++ vs).length = i * sz + j0 + vs.length := by rw [List.length_append, ht]
      refine List.ext_getElem? fun q => ?_
      by_cases hq : q < l.length * sz
      · rw [List.getElem?_take, if_pos hq]
        obtain ⟨a, b, hb2, rfl⟩ : ∃ a b, b < sz ∧ q = a * sz + b := ⟨q / sz, q % sz, Nat.mod_lt _ hp, by rw [Nat.mul_comm]; exact (Nat.div_add_mod q sz).symm⟩
        have hal : a < l.length := by
          rcases Nat.lt_or_ge a l.length with h | h
          · exact h
          · have : l.length * sz ≤ a * sz := Nat.mul_le_mul_right _ h
            omega
        have hold : cur.toList[a * sz + b]? = (f l[a])[b]? := by
          have := flat_get L.len l a b hal hb2
          rw [← h6, List.getElem?_take, if_pos hq] at this
          exact this
        rw [flat_get L.len (l.set i y) a b (by simpa using hal) hb2]
        by_cases hia : i = a
        · subst hia
          rw [List.getElem_set_self, hv b hb2]
          split
          · next hin =>
            rw [List.getElem?_append_left (by rw [ha]; omega), List.getElem?_append_right (by rw [ht]; omega), ht]
            congr 1; omega
          · next hout =>
            rw [← hold]
            by_cases hlt : b < j0
            · rw [List.getElem?_append_left (by rw [ha]; omega), List.getElem?_append_left (by rw [ht]; omega), List.getElem?_take, if_pos (by omega)]
            · rw [List.getElem?_append_right (by rw [ha]; omega), List.getElem?_drop, ha]
              congr 1; omega
        · rw [List.getElem_set_ne hia, ← hold]
          rcases Nat.lt_or_gt_of_ne hia with hlt | hgt
          · have h7 : (i + 1) * sz ≤ a * sz := Nat.mul_le_mul_right _ hlt
            rw [Nat.succ_mul] at h7
            rw [List.getElem?_append_right (by rw [ha]; omega), List.getElem?_drop, ha]
            congr 1; omega
          · have h7 : (a + 1) * sz ≤ i * sz := Nat.mul_le_mul_right _ hgt
            rw [Nat.succ_mul] at h7
            rw [List.getElem?_append_left (by rw [ha]; omega), List.getElem?_append_left (by rw [ht]; omega), List.getElem?_take, if_pos (by omega)]
      · rw [List.getElem?_eq_none (by rw [List.length_take]; omega), List.getElem?_eq_none]
        rw [flat_length L.len, List.length_set]; omega
/-- A whole element. -/
theorem OwnS.put (h : OwnS f sz w base e ad cap l) (L : Lies f sz) {i : Nat} (hi : i < l.length) (y : α) :
    ∃ g, ad = some ⟨g, 0, none⟩ ∧ g ∈ ob ad cap ∧ base ≤ g ∧ w.there g (i * sz) sz ∧ OwnS f sz (w.setCells g (i * sz) (f y)) base e ad cap (l.set i y) ∧ Kp [g] w (w.setCells g (i * sz) (f y)) := by
  have hl := L.len y
  have := h.write L hi y 0 (f y) (by rw [hl]; omega) (fun j hj => by rw [if_pos (by rw [hl]; omega), Nat.sub_zero])
  simpa [hl] using this
/-- A single cell of an element. -/
theorem OwnS.put1 (h : OwnS f sz w base e ad cap l) (L : Lies f sz) {i : Nat} (hi : i < l.length) (y : α) (j0 : Nat) (v : Value) (hj : j0 < sz) (hv : f y = (f l[i]).set j0 v) :
    ∃ g, ad = some ⟨g, 0, none⟩ ∧ g ∈ ob ad cap ∧ base ≤ g ∧ (∃ u, w.cell? ⟨g, i * sz + j0, none⟩ = some u) ∧ w.frozen? ⟨g, i * sz + j0, none⟩ = false ∧ OwnS f sz (w.setCell ⟨g, i * sz + j0, none⟩ v) base e ad cap (l.set i y) ∧ Kp [g] w (w.setCell ⟨g, i * sz + j0, none⟩ v) := by
  obtain ⟨g, h1, h2, h3, h4, h5, h6⟩ := h.write L hi y j0 [v] (by simp; omega) (fun j hj => by
    rw [hv]
    split
    · next hin => obtain rfl : j = j0 := by simp at hin; omega
                  rw [Nat.sub_self, List.getElem?_set_self (by rw [L.len]; exact hj)]; rfl
    · next hout => rw [List.getElem?_set_ne (by simp at hout; omega)])
  have h7 := h4 0 (by simp)
  exact ⟨g, h1, h2, h3, Option.isSome_iff_exists.1 h7.1, h7.2, h5, h6⟩
end
end Go.Proofs.Ythmaobmgogmaoaa
