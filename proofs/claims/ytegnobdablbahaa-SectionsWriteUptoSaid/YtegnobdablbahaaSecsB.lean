/-
  Slices of sections, as they come in: how much they are.
-/
import Derived.Test.YtegnobdablbahaaSecs
import Derived.Test.YtegnobdablbahaaSec4
namespace Go.Proofs.Ytegnobdablbahaa
open Go.RowKit
set_option linter.unusedSimpArgs false
set_option linter.unusedVariables false

section
open Go.Deep Go.Joins Go.ChangeShapes Go.WideShapes
variable {H : Type} {enc : TypeId × Value → H} {w : World} {base : Nat} {spare : Nat → Bool} {held : Bool}
theorem bulk_lits (k : IntKind) : ∀ zs : List Int, Rows.uptoBulkAll (H := H) (lits k zs) = zs.length
  | [] => by simp [lits, Rows.uptoBulkAll]
  | z :: zs => by
    have := bulk_lits k zs
    simp only [lits, List.map_cons, Rows.uptoBulkAll, Rows.uptoBulk, List.length_cons] at this ⊢
    omega
theorem open_bytesB {n : Nat} {cs : List Value} {y : DataW H × List MemPlace} (h : DataW.trod enc Try.prog w base spare held n 39 cs = some y) : ∃ (ad : Option Addr) (cap : Nat) (zs : List Int), cs = [.slice ad zs.length cap] ∧ Rd w .u8 ad cap zs ∧ Bytes8 zs ∧ zs.length + 1 ≤ Rows.uptoBulk y.1 := by
  obtain ⟨ad, cap, zs, h1, h2, h3⟩ := open_bytes h
  refine ⟨ad, cap, zs, h1, h2, h3, ?_⟩
  rcases open_ints Try.underlying39 Try.underlying5 (by kernel_rfl) h with ⟨hcs, rfl⟩ | ⟨x, l, c, ys, hcs, _, hl, hm, hz, rfl, hcell, hwz⟩
  · rw [h1] at hcs
    simp at hcs
    simp [Rows.uptoBulk, hcs.2.1]
  · rw [h1] at hcs
    simp at hcs
    have hle : l ≤ ys.length := by rw [hz]; split <;> omega
    simp only [Rows.uptoBulk, bulk_lits]
    simp
    omega
theorem open_secB {n : Nat} {cs : List Value} {y : DataW H × List MemPlace} (hl : cs.length = 2) (h : DataW.trod enc Try.prog w base spare held n 50 cs = some y) : ∃ x : Sec, cs = scells x ∧ x.wf w ∧ x.nm.size + x.bs.length + 2 ≤ Rows.uptoBulk y.1 := by
  obtain ⟨y0, y1, m, rfl, -, g0, g1⟩ := trod_struct2 Try.underlying50 h
  match cs, hl with
  | [c0, c1], _ =>
    have e0 : Try.prog.cellsOf 9 = 1 := by kernel_rfl
    have e1 : Try.prog.cellsOf 39 = 1 := by kernel_rfl
    simp only [e0, e1] at g0 g1
    obtain ⟨x0, q0, r0, b0⟩ := DataW.trod_string Try.underlying9 g0
    obtain ⟨ad, cap, zs, q1, r1, b1, k1⟩ := open_bytesB g1
    simp at q0 q1
    subst q0 q1 r0
    refine ⟨⟨x0, ad, cap, zs⟩, rfl, ⟨r1, b1, b0, by have h1 := r1.1; have h2 := r1.2.1; show zs.length ≤ _; omega⟩, ?_⟩
    simp only [Rows.uptoBulk, Rows.uptoBulkAll]
    simp
    omega
theorem bulk_sum : ∀ (L : List Sec) (D : List (DataW H)), L.length = D.length → (∀ (i : Nat) (x : Sec) (d : DataW H), L[i]? = some x → D[i]? = some d → x.nm.size + x.bs.length + 2 ≤ Rows.uptoBulk d) → szN L ≤ 10 * Rows.uptoBulkAll D
  | [], D, _, _ => by simp [szN]
  | x :: L, [], h, _ => by simp at h
  | x :: L, d :: D, h, hh => by
    have h1 := hh 0 x d rfl rfl
    have h2 := bulk_sum L D (by simpa using h) (fun i y e hy he => hh (i + 1) y e (by simpa using hy) (by simpa using he))
    simp only [szN, List.map_cons, List.sum_cons, Rows.uptoBulkAll] at h2 ⊢
    omega
theorem open_secsB {ad : Option Addr} {len cap fuel : Nat} {x : DataW H × List MemPlace} (h : DataW.trod enc Try.prog w base spare held fuel 47 [.slice ad len cap] = some x) :
    ∃ l : List Sec, l.length = len ∧ RdX w ad cap l ∧ (∀ v ∈ l, v.wf w) ∧ szN l ≤ 10 * Rows.uptoBulk x.1 := by
  have hc : Try.prog.cellsOf 50 = 2 := by kernel_rfl
  rcases DataW.trod_slice Try.underlying47 h with ⟨h0, rfl⟩ | ⟨a, len', cap', elems, rest, n, rfl, h0, rfl, hb, hl, hm, hlen, hel, -, -⟩
  · simp at h0
    obtain ⟨rfl, rfl, rfl⟩ := h0
    exact ⟨[], rfl, RdS.nil _ _ _, by simp, by simp [szN]⟩
  · simp at h0
    obtain ⟨rfl, rfl, rfl⟩ := h0
    obtain ⟨X, hX⟩ := choose_lt (α := Sec) (p := fun i y => (∀ j, j < 2 → w.cell? (a.add (i * 2 + j)) = (scells y)[j]?) ∧ y.wf w ∧ ∀ d, (elems.map (·.1))[i]? = some d → y.nm.size + y.bs.length + 2 ≤ Rows.uptoBulk d) (n := len) (fun i hi => by
      have h1 := hel i hi
      rw [hc, List.getElem?_eq_getElem (by omega), Option.bind_eq_some_iff] at h1
      obtain ⟨cs', h1, h2⟩ := h1
      obtain ⟨_, hlen2, hcell⟩ := World.cells?_some h1
      obtain ⟨y, rfl, hq, hbk⟩ := open_secB hlen2 h2
      refine ⟨y, fun j hj => ?_, hq, fun d hd => ?_⟩
      · have := hcell j hj
        rwa [add_add] at this
      · rw [List.getElem?_map, List.getElem?_eq_getElem (by omega)] at hd
        simp at hd
        rw [← hd]; exact hbk)
    have hsum := bulk_sum ((List.range len).map X) (elems.map (·.1)) (by simp [hlen]) (fun i x d hx hd => by
      have hi : i < len := by have := (List.getElem?_eq_some_iff.1 hx).1; simpa using this
      have : X i = x := by simpa [hi] using hx
      rw [← this]; exact (hX i hi).2.2 d hd)
    refine ⟨(List.range len).map X, by simp, ⟨by simpa using hl, by unfold maxLen at hm; omega, fun i hi => ?_⟩, fun y hy => ?_, ?_⟩
    · simp at hi
      have h0 := (hX 0 (by omega)).1 0 (by omega)
      rw [List.getElem?_eq_getElem (by rw [slies.len]; omega)] at h0
      obtain ⟨b, off, spot⟩ := a
      have hspot : spot = none := by simpa [Addr.add] using World.cell?_spot h0
      subst hspot
      refine ⟨b, off, rfl, fun j hj => ?_⟩
      have := (hX i hi).1 j hj
      rw [Addr.add_lit] at this
      rw [Nat.add_assoc, this]; simp
    · obtain ⟨i, hi, rfl⟩ := List.mem_map.1 hy
      exact (hX i (by simpa using hi)).2.1
    · simp only [Rows.uptoBulk]; omega
end
end Go.Proofs.Ytegnobdablbahaa
