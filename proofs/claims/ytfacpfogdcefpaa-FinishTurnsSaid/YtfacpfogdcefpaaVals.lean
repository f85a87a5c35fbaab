/-
  Slices of values.
-/
import Derived.Test.YtfacpfogdcefpaaRowS
namespace Go.Proofs.Ytfacpfogdcefpaa
open Go.RowKit
set_option linter.unusedSimpArgs false
set_option linter.unusedVariables false

/-- A value. -/
structure V3 where
  k : Int
  n : Int
  s : ByteArray
instance : Inhabited V3 := ⟨⟨0, 0, ⟨#[]⟩⟩⟩
def vcells (v : V3) : List Value := [.int .u8 v.k, .int .i64 v.n, .string v.s]
theorem vcells_length (v : V3) : (vcells v).length = 3 := rfl
def RdV (w : World) (ad : Option Addr) (cap : Nat) (l : List V3) : Prop := RdS vcells 3 w ad cap l
def V3.wf (v : V3) : Prop := (Lit.int .u8 v.k).wf = true ∧ (Lit.int .i64 v.n).wf = true ∧ v.s.size ≤ maxLen
theorem RdV.at' {w : World} {ad : Option Addr} {cap : Nat} {l : List V3} (h : RdV w ad cap l) (i : Nat) (hi : i < l.length) :
    ∃ b off, ad = some ⟨b, off, none⟩ ∧ w.cell? ⟨b, off + i * 3, none⟩ = some (.int .u8 l[i].k) ∧ w.cell? ⟨b, off + i * 3 + 1, none⟩ = some (.int .i64 l[i].n) ∧ w.cell? ⟨b, off + i * 3 + 2, none⟩ = some (.string l[i].s) := by
  obtain ⟨b, off, h1, h2⟩ := h.2.2 i hi
  exact ⟨b, off, h1, h2 0 (by omega), h2 1 (by omega), h2 2 (by omega)⟩

theorem RdV.keep0 {w w' : World} {ad : Option Addr} {cap : Nat} {l : List V3} (h : RdV w ad cap l) (k : Kp [] w w') : RdV w' ad cap l := RdS.keep0 h vcells_length k
theorem RdV.keep {w w' : World} {ad : Option Addr} {cap : Nat} {l : List V3} (h : RdV w ad cap l) {S : List Nat} (k : Kp S w w') (hn : ∀ x, ad = some x → l ≠ [] → x.block ∉ S) : RdV w' ad cap l := RdS.keep h vcells_length k hn
theorem RdV.lt {w : World} {ad : Option Addr} {cap : Nat} {l : List V3} (h : RdV w ad cap l) : ∀ x, ad = some x → l ≠ [] → x.block < w.heap.size := RdS.lt h (by omega) vcells_length

section
open Go.Deep Go.Joins
variable {H : Type} {enc : TypeId × Value → H} {w : World} {base : Nat} {spare : Nat → Bool} {held : Bool}
set_option maxRecDepth 100000 in
theorem open_val {n : Nat} {cs : List Value} {y : DataW H × List MemPlace} (hl : cs.length = 3) (h : DataW.trod enc Try.prog w base spare held n 38 cs = some y) : ∃ v : V3, cs = vcells v ∧ v.wf := by
  obtain ⟨y0, y1, y2, m, rfl, -, g0, g1, g2⟩ := trod_struct3 Try.underlying38 h
  match cs, hl with
  | [c0, c1, c2], _ =>
    have e0 : Try.prog.cellsOf 5 = 1 := by kernel_rfl
    have e1 : Try.prog.cellsOf 2 = 1 := by kernel_rfl
    have e2 : Try.prog.cellsOf 9 = 1 := by kernel_rfl
    simp only [e0, e1, e2] at g0 g1 g2
    obtain ⟨x0, q0, -, b0⟩ := DataW.trod_int Try.underlying5 g0
    obtain ⟨x1, q1, -, b1⟩ := DataW.trod_int Try.underlying2 g1
    obtain ⟨x2, q2, -, b2⟩ := DataW.trod_string Try.underlying9 g2
    simp at q0 q1 q2
    subst q0 q1 q2
    exact ⟨⟨x0, x1, x2⟩, rfl, b0, b1, b2⟩
set_option maxRecDepth 100000 in
theorem open_vals {ad : Option Addr} {len cap fuel : Nat} {x : DataW H × List MemPlace} (h : DataW.trod enc Try.prog w base spare held fuel 36 [.slice ad len cap] = some x) :
    ∃ l : List V3, l.length = len ∧ RdV w ad cap l ∧ ∀ v ∈ l, v.wf :=
  open_rows vcells 3 V3.wf Try.underlying36 (by kernel_rfl) (by omega) vcells_length (fun n cs y hl hy => open_val hl hy) h
end
end Go.Proofs.Ytfacpfogdcefpaa
