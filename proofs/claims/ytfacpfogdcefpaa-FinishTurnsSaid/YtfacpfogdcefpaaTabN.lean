/-
  Tables: rows as they come in; rows that are written over.
-/
import Derived.Test.YtfacpfogdcefpaaTabM
import Derived.Test.YtfacpfogdcefpaaCols
namespace Go.Proofs.Ytfacpfogdcefpaa
open Go.RowKit Go.Shelf
set_option linter.unusedSimpArgs false
set_option linter.unusedVariables false
set_option maxRecDepth 100000

/-- A row that came in. -/
def HdIn (w : World) (h : Hd) : Prop := HdOk w h ∧ ∀ v ∈ h.row, v.wf
theorem rdR_in {w : World} {ad : Option Addr} {cap : Nat} {hs : List Hd} (h : RdS hcells 1 w ad cap hs) (k : ∀ x ∈ hs, HdIn w x) : RdR w ad cap hs := ⟨h, fun x hx => (k x hx).1⟩
section
open Go.Deep Go.Joins Go.ChangeShapes Go.WideShapes
variable {H : Type} {enc : TypeId × Value → H} {w : World} {base : Nat} {spare : Nat → Bool} {held : Bool}
theorem open_hd {n : Nat} {cs : List Value} {y : DataW H × List MemPlace} (h : DataW.trod enc Try.prog w base spare held n 36 cs = some y) : ∃ x : Hd, cs = hcells x ∧ HdIn w x := by
  obtain ⟨a, len, cap, rfl⟩ := slice_form Try.underlying36 h
  obtain ⟨l, h1, h2, h3⟩ := open_vals h
  exact ⟨⟨a, len, cap, l⟩, rfl, ⟨h1.symm, h2⟩, h3⟩
theorem open_tab {ad : Option Addr} {len cap fuel : Nat} {x : DataW H × List MemPlace} (h : DataW.trod enc Try.prog w base spare held fuel 27 [.slice ad len cap] = some x) :
    ∃ l : List Hd, l.length = len ∧ RdS hcells 1 w ad cap l ∧ ∀ v ∈ l, HdIn w v :=
  open_rows hcells 1 (HdIn w) Try.underlying27 (by kernel_rfl) (by omega) hlies.len (fun n cs y hl hy => open_hd hy) h
end

theorem set_num : ∀ (l : List V3) (k : Nat) (z : Int), k < l.length → (l.flatMap vcells).set (k * 3 + 1) (.int .i64 z) = (l.set k ⟨(atV l k).k, z, (atV l k).s⟩).flatMap vcells
  | x :: l, 0, z, h => by simp [vcells, atV]
  | x :: l, k + 1, z, h => by
    have ih := set_num l k z (by simpa using h)
    rw [List.flatMap_cons, List.set_append_right _ _ (by rw [vcells_length]; omega), vcells_length, show (k + 1) * 3 + 1 - 3 = k * 3 + 1 by omega, ih]
    simp [atV]
/-- A block that holds so many values. -/
def HasRow (w : World) (q n : Nat) : Prop := ∃ r : List V3, r.length = n ∧ w.heap[q]? = some (.cells (r.flatMap vcells).toArray 38)
theorem HasRow.keep {w w' : World} {q n : Nat} (h : HasRow w q n) {S : List Nat} (k : Kp S w w') (hq : q ∉ S) : HasRow w' q n := let ⟨r, h1, h2⟩ := h; ⟨r, h1, k.get h2 hq⟩
/-- One of its numbers. -/
theorem HasRow.at' {w : World} {q n : Nat} (h : HasRow w q n) {k : Nat} (hk : k < n) : (∃ z, w.cell? ⟨q, k * 3 + 1, none⟩ = some (.int .i64 z)) ∧ w.frozen? ⟨q, k * 3 + 1, none⟩ = false := by
  obtain ⟨r, rfl, h2⟩ := h
  refine ⟨⟨(r[k]).n, ?_⟩, frozen_of_row w q _ _ _ h2⟩
  rw [cell_of_row w q _ _ _ _ h2]
  have := flat_get vlies.len r k 1 hk (by omega)
  simpa [vcells] using this
theorem HasRow.set {w : World} {q q' n n' k : Nat} {z : Int} (h : HasRow w q n) (h' : HasRow w q' n') (hk : k < n') : HasRow (w.setCell ⟨q', k * 3 + 1, none⟩ (.int .i64 z)) q n := by
  obtain ⟨r, rfl, h2⟩ := h
  by_cases hq : q = q'
  · subst hq
    obtain ⟨r', rfl, h3⟩ := h'
    rw [h2] at h3
    have he : r.flatMap vcells = r'.flatMap vcells := by
      have h4 : (Obj.cells (r.flatMap vcells).toArray 38) = .cells (r'.flatMap vcells).toArray 38 := Option.some.inj h3
      injection h4 with h5
      exact congrArg Array.toList h5
    have hl : r.length = r'.length := by
      have := congrArg List.length he
      rw [flat_length vlies.len, flat_length vlies.len] at this; omega
    refine ⟨r.set k ⟨(atV r k).k, z, (atV r k).s⟩, by simp, ?_⟩
    rw [heap_setCell_same w q _ _ _ _ h2, ← set_num r k z (by omega)]
    simp
  · exact ⟨r, rfl, by rw [Below.heap_setCell _ _ _ _ (fun e => hq (by simpa using e))]; exact h2⟩
/-- Rows that may be written over. -/
structure OutP (w : World) (base : Nat) (ad : Option Addr) (cap : Nat) (R : List Hd) : Prop where
  rd : RdS hcells 1 w ad cap R
  row : ∀ h ∈ R, ∃ q, h.ad = some ⟨q, 0, none⟩ ∧ base ≤ q ∧ HasRow w q h.n ∧ (∀ x, ad = some x → x.block ≠ q) ∧ h.n ≤ 1000000 ∧ h.n ≤ h.cap ∧ h.cap ≤ 1000000
theorem OutP.keep0 {w w' : World} {base : Nat} {ad : Option Addr} {cap : Nat} {R : List Hd} (h : OutP w base ad cap R) (k : Kp [] w w') : OutP w' base ad cap R :=
  ⟨h.rd.keep0 hlies.len k, fun x hx => let ⟨q, h1, h2, h3, h4⟩ := h.row x hx; ⟨q, h1, h2, h3.keep k (by simp), h4⟩⟩
theorem OutP.set {w : World} {base : Nat} {ad : Option Addr} {cap : Nat} {R : List Hd} (h : OutP w base ad cap R) {x : Hd} (hx : x ∈ R) {q k : Nat} (hq : x.ad = some ⟨q, 0, none⟩) (hk : k < x.n) (z : Int) : OutP (w.setCell ⟨q, k * 3 + 1, none⟩ (.int .i64 z)) base ad cap R := by
  obtain ⟨q', h1, h2, h3, h4, -⟩ := h.row x hx
  rw [hq] at h1; cases h1
  refine ⟨h.rd.keep hlies.len (S := [q]) ((Kp.refl [q] w).setCell _ _ (by simp)) (fun y hy _ => by simpa using h4 y hy), fun y hy => ?_⟩
  obtain ⟨q2, g1, g2, g3, g4⟩ := h.row y hy
  exact ⟨q2, g1, g2, g3.set h3 hk, g4⟩
theorem OutP.nil (w : World) (base : Nat) : OutP w base none 0 [] := ⟨RdS.nil _ _ _, by simp⟩
/-- What Sorted told may be written over. -/
theorem outP_own {w : World} {g base : Nat} {R : List Hd} (hd : Dat w g R) (ho : ∀ h ∈ R, OwnRow w (g + 1) h) (hg : base ≤ g) (hl : R.length ≤ 1000000) : OutP w base (some ⟨g, 0, none⟩) R.length R := by
  refine ⟨(rdR_own hd ho hl).1, fun h hh => ?_⟩
  obtain ⟨q, h1, h2, h3, h4, h5, h6⟩ := ho h hh
  exact ⟨q, h1, by omega, ⟨h.row, h2.symm, h5⟩, fun x hx => by cases hx; simp; omega, by omega, by omega, by omega⟩
theorem RdS.at1 {w : World} {ad : Option Addr} {cap : Nat} {R : List Hd} (h : RdS hcells 1 w ad cap R) (i : Nat) (hi : i < R.length) : ∃ b off, ad = some ⟨b, off, none⟩ ∧ w.cell? ⟨b, off + i, none⟩ = some (.slice R[i].ad R[i].n R[i].cap) := by
  obtain ⟨b, off, h1, h2⟩ := h.2.2 i hi
  refine ⟨b, off, h1, ?_⟩
  have := h2 0 (by omega)
  simpa [hcells] using this

/-- The same rows read the same. -/
theorem rowA_congr {a b : List Hd} (h : a.map (·.row) = b.map (·.row)) : a.length = b.length ∧ ∀ i, rowA a i = rowA b i := by
  have hl : a.length = b.length := by simpa using congrArg List.length h
  refine ⟨hl, fun i => ?_⟩
  by_cases hi : i < a.length
  · have h2 : (a.map (·.row))[i]? = (b.map (·.row))[i]? := by rw [h]
    rw [List.getElem?_map, List.getElem?_map, List.getElem?_eq_getElem hi, List.getElem?_eq_getElem (by omega)] at h2
    rw [rowA_eq a i hi, rowA_eq b i (by omega)]
    simpa using h2
  · unfold rowA
    rw [List.getD_eq_getElem?_getD, List.getD_eq_getElem?_getD, List.getElem?_eq_none (by omega), List.getElem?_eq_none (by omega)]
theorem mayT_congr {l : List Col} {a b : List Hd} (h : a.map (·.row) = b.map (·.row)) : mayT l a = mayT l b := by
  obtain ⟨h1, h2⟩ := rowA_congr h
  unfold mayT
  simp only [h1, h2]
theorem sortE_congr {l : List Col} {c : Cfg} {a b : List Hd} (h : a.map (·.row) = b.map (·.row)) : sortE l c a = sortE l c b := by unfold sortE; rw [mayT_congr h]
end Go.Proofs.Ytfacpfogdcefpaa
