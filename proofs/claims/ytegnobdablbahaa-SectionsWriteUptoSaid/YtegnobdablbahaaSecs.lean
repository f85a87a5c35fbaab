/-
  Slices of sections, as they come in.
-/
import Derived.Test.YtegnobdablbahaaSec3
import Derived.ChangeSlices
import Derived.ChangeSame
namespace Go.Proofs.Ytegnobdablbahaa
open Go.RowKit
set_option linter.unusedSimpArgs false
set_option linter.unusedVariables false

/-- What a section that came in is known to be. -/
def Sec.wf (w : World) (x : Sec) : Prop := Rd w .u8 x.ad x.cap x.bs ∧ Bytes8 x.bs ∧ x.nm.size ≤ maxLen ∧ x.bs.length ≤ 9223372036854775807
theorem secs_rd {w : World} {l : List Sec} (h : ∀ x ∈ l, Sec.wf w x) : RdXs w l := fun x hx => (h x hx).1
theorem secs_ok {w : World} {l : List Sec} (h : ∀ x ∈ l, Sec.wf w x) : XOk l := fun x hx => (h x hx).2

section
open Go.Deep Go.Joins Go.ChangeShapes Go.WideShapes
variable {H : Type} {enc : TypeId × Value → H} {w : World} {base : Nat} {spare : Nat → Bool} {held : Bool}
theorem open_bytes {n : Nat} {cs : List Value} {y : DataW H × List MemPlace} (h : DataW.trod enc Try.prog w base spare held n 39 cs = some y) : ∃ (ad : Option Addr) (cap : Nat) (zs : List Int), cs = [.slice ad zs.length cap] ∧ Rd w .u8 ad cap zs ∧ Bytes8 zs := by
  rcases open_ints Try.underlying39 Try.underlying5 (by kernel_rfl) h with ⟨hcs, _⟩ | ⟨x, l, c, zs, hcs, _, hl, hm, hz, _, hcell, hwz⟩
  · exact ⟨none, 0, [], hcs, ⟨by simp, by omega, fun i hi => by simp at hi⟩, fun z hz => by simp at hz⟩
  · have hle : l ≤ zs.length := by rw [hz]; split <;> omega
    have hlen : (zs.take l).length = l := by simp; omega
    refine ⟨some x, c, zs.take l, by rw [hcs, hlen], ⟨by omega, by unfold maxLen at hm; omega, fun i hi => ?_⟩, fun z hz => bounds_u8 (hwz z (List.mem_of_mem_take hz))⟩
    rw [hlen] at hi
    have h0 := hcell 0 (by omega)
    obtain ⟨b, off, spot⟩ := x
    have hspot : spot = none := by simpa [Addr.add] using World.cell?_spot h0
    subst hspot
    refine ⟨b, off, rfl, ?_⟩
    have h1 := hcell i (by omega)
    rw [Addr.add_lit] at h1
    rw [h1]
    have e1 : (zs.take l)[i]? = zs[i]? := by rw [List.getElem?_take, if_pos hi]
    simp only [nth, List.getD_eq_getElem?_getD, e1]
theorem open_sec {n : Nat} {cs : List Value} {y : DataW H × List MemPlace} (hl : cs.length = 2) (h : DataW.trod enc Try.prog w base spare held n 50 cs = some y) : ∃ x : Sec, cs = scells x ∧ x.wf w := by
  obtain ⟨y0, y1, m, rfl, -, g0, g1⟩ := trod_struct2 Try.underlying50 h
  match cs, hl with
  | [c0, c1], _ =>
    have e0 : Try.prog.cellsOf 9 = 1 := by kernel_rfl
    have e1 : Try.prog.cellsOf 39 = 1 := by kernel_rfl
    simp only [e0, e1] at g0 g1
    obtain ⟨x0, q0, -, b0⟩ := DataW.trod_string Try.underlying9 g0
    obtain ⟨ad, cap, zs, q1, r1, b1⟩ := open_bytes g1
    simp at q0 q1
    subst q0 q1
    exact ⟨⟨x0, ad, cap, zs⟩, rfl, r1, b1, b0, by have h1 := r1.1; have h2 := r1.2.1; show zs.length ≤ _; omega⟩
theorem open_secs {ad : Option Addr} {len cap fuel : Nat} {x : DataW H × List MemPlace} (h : DataW.trod enc Try.prog w base spare held fuel 47 [.slice ad len cap] = some x) :
    ∃ l : List Sec, l.length = len ∧ RdX w ad cap l ∧ ∀ v ∈ l, v.wf w :=
  open_rows scells 2 (Sec.wf w) Try.underlying47 (by kernel_rfl) (by omega) slies.len (fun n cs y hl hy => open_sec hl hy) h
end
end Go.Proofs.Ytegnobdablbahaa
