/-
  Columns and configurations, as they come in.
-/
import Derived.Test.YtfacpfogdcefpaaSch4
import Derived.Lib.SmallJoins
import Derived.ChangeSlices
import Derived.ChangeSame
import Derived.ChangeArms
namespace Go.Proofs.Ytfacpfogdcefpaa
open Go.RowKit
set_option linter.unusedSimpArgs false
set_option linter.unusedVariables false
set_option maxRecDepth 100000

def Col.wf (x : Col) : Prop := x.nm.size ≤ maxLen ∧ 0 ≤ x.kd ∧ x.kd < 256
theorem cols_ok {l : List Col} (h : ∀ x ∈ l, Col.wf x) : COk l := h

section
open Go.Deep Go.Joins Go.ChangeShapes Go.WideShapes
variable {H : Type} {enc : TypeId × Value → H} {w : World} {base : Nat} {spare : Nat → Bool} {held : Bool}
theorem open_col {n : Nat} {cs : List Value} {y : DataW H × List MemPlace} (hl : cs.length = 2) (h : DataW.trod enc Try.prog w base spare held n 62 cs = some y) : ∃ x : Col, cs = ccells x ∧ x.wf := by
  obtain ⟨y0, y1, m, rfl, -, g0, g1⟩ := trod_struct2 Try.underlying62 h
  match cs, hl with
  | [c0, c1], _ =>
    have e0 : Try.prog.cellsOf 9 = 1 := by kernel_rfl
    have e1 : Try.prog.cellsOf 5 = 1 := by kernel_rfl
    simp only [e0, e1] at g0 g1
    obtain ⟨x0, q0, -, b0⟩ := DataW.trod_string Try.underlying9 g0
    obtain ⟨x1, q1, -, b1⟩ := DataW.trod_int Try.underlying5 g1
    simp at q0 q1
    subst q0 q1
    have hb := bounds_u8 b1
    exact ⟨⟨x0, x1⟩, rfl, b0, by show 0 ≤ x1; omega, by show x1 < 256; omega⟩
theorem open_cols {ad : Option Addr} {len cap fuel : Nat} {x : DataW H × List MemPlace} (h : DataW.trod enc Try.prog w base spare held fuel 22 [.slice ad len cap] = some x) :
    ∃ l : List Col, l.length = len ∧ RdC w ad cap l ∧ ∀ v ∈ l, v.wf :=
  open_rows ccells 2 Col.wf Try.underlying22 (by kernel_rfl) (by omega) clies.len (fun n cs y hl hy => open_col hl hy) h
theorem open_flags {n : Nat} {cs : List Value} {x : DataW H × List MemPlace} (h : DataW.trod enc Try.prog w base spare held n 23 cs = some x) :
    ∃ (ad : Option Addr) (cap : Nat) (l : List Bool), cs = [.slice ad l.length cap] ∧ RdB w ad cap l := by
  obtain ⟨a, len, cap, rfl⟩ := slice_form Try.underlying23 h
  obtain ⟨l, rfl, h2, -⟩ := open_rows bcells 1 (fun _ => True) Try.underlying23 (by kernel_rfl) (by omega) blies.len (fun n cs y hl hy => by
    obtain ⟨b, rfl, -⟩ := DataW.trod_bool Try.underlying4 hy
    exact ⟨b, rfl, trivial⟩) h
  exact ⟨a, cap, l, rfl, h2⟩
theorem open_places {n : Nat} {cs : List Value} {x : DataW H × List MemPlace} (h : DataW.trod enc Try.prog w base spare held n 24 cs = some x) :
    ∃ (ad : Option Addr) (cap : Nat) (l : List Int), cs = [.slice ad l.length cap] ∧ Rd w .i64 ad cap l := by
  rcases open_ints Try.underlying24 Try.underlying3 (by kernel_rfl) h with ⟨hcs, _⟩ | ⟨x, l, c, zs, hcs, _, hl, hm, hz, _, hcell, hwz⟩
  · exact ⟨none, 0, [], hcs, ⟨by simp, by omega, fun i hi => by simp at hi⟩⟩
  · have hle : l ≤ zs.length := by rw [hz]; split <;> omega
    have hlen : (zs.take l).length = l := by simp; omega
    refine ⟨some x, c, zs.take l, by rw [hcs, hlen], ⟨by omega, by unfold maxLen at hm; omega, fun i hi => ?_⟩⟩
    rw [hlen] at hi
    have h0 := hcell 0 (by omega)
    obtain ⟨b, off, spot⟩ := x
    have hspot : spot = none := by simpa [Addr.add] using World.cell?_spot h0
    subst hspot
    refine ⟨b, off, rfl, ?_⟩
    have h1 := hcell i (by omega)
    rw [Addr.add_lit] at h1
    rw [h1]
    have e1 : (zs.take l)[i]? = zs[i]? := by rw [List.getElem?_take, if_pos hi]
    simp only [nth, List.getD_eq_getElem?_getD, e1]
theorem open_cfg {r : Reach} {b0 : Nat} {v : Value} {d : DataW H} {p : List MemPlace} (hv : Value.okWide Try.prog w r b0 26 v) (h : DataW.Trod enc Try.prog w base spare held 26 v d p) : ∃ c : Cfg, v = cfgV c ∧ RdCfg w c := by
  obtain ⟨cs, rfl, hsz⟩ := okWide_struct Try.underlying26 hv
  obtain ⟨l⟩ := cs
  have hl5 : l.length = 5 := hsz.trans (by kernel_rfl)
  obtain ⟨fuel, hf⟩ := h
  match l, hl5 with
  | [c0, c1, c2, c3, c4], _ =>
    obtain ⟨xs, n, _, -, hl, hlen, hg⟩ := DataW.trod_struct Try.underlying26 hf
    match xs, hlen with
    | [y0, y1, y2, y3, y4], _ =>
      have g0 := hg 0 _ rfl
      have g1 := hg 1 _ rfl
      have g2 := hg 2 _ rfl
      have g3 := hg 3 _ rfl
      have g4 := hg 4 _ rfl
      have e0 : Try.prog.cellsOf 3 = 1 := by kernel_rfl
      have e1 : Try.prog.cellsOf 23 = 1 := by kernel_rfl
      have e2 : Try.prog.cellsOf 24 = 1 := by kernel_rfl
      simp [Value.cells, e0, e1, e2] at g0 g1 g2 g3 g4
      obtain ⟨x0, q0, -, -⟩ := DataW.trod_int Try.underlying3 g0
      obtain ⟨a1, k1, l1, q1, r1⟩ := open_flags g1
      obtain ⟨a2, k2, l2, q2, r2⟩ := open_flags g2
      obtain ⟨a3, k3, l3, q3, r3⟩ := open_places g3
      obtain ⟨x4, q4, -, -⟩ := DataW.trod_int Try.underlying3 g4
      simp at q0 q1 q2 q3 q4
      subst q0 q1 q2 q3 q4
      exact ⟨⟨x0, a1, k1, l1, a2, k2, l2, a3, k3, l3, x4⟩, rfl, r1, r2, r3⟩
end
end Go.Proofs.Ytfacpfogdcefpaa
