/-
  Star-trees: rows of numbers and of flags, as they come in.
-/
import Derived.Test.YthmaobmgogmaoaaStaI
import Derived.Lib.SmallJoins
import Derived.ChangeSlices
import Derived.ChangeSame
import Derived.ChangeArms
namespace Go.Proofs.Ythmaobmgogmaoaa
open Go.RowKit
set_option linter.unusedSimpArgs false
set_option linter.unusedVariables false
set_option maxRecDepth 100000

def bocells (b : Bool) : List Value := [.bool b]
theorem bolies : Lies bocells 1 := ⟨fun _ => rfl, fun x v hv => by simp [bocells] at hv; rcases hv with rfl; rfl, by omega⟩
/-- A row of flags as it stands in a slice of rows. -/
structure Bh where
  ad : Option Addr
  n : Nat
  cap : Nat
  l : List Bool
instance : Inhabited Bh := ⟨⟨none, 0, 0, []⟩⟩
def bhcells (h : Bh) : List Value := [.slice h.ad h.n h.cap]
theorem bhlies : Lies bhcells 1 := ⟨fun _ => rfl, fun x v hv => by simp [bhcells] at hv; subst hv; rfl, by omega⟩
def RdF (w : World) (ad : Option Addr) (cap : Nat) (l : List Bool) : Prop := RdS bocells 1 w ad cap l
theorem RdF.keep0 {w w' : World} {ad : Option Addr} {cap : Nat} {l : List Bool} (h : RdF w ad cap l) (k : Kp [] w w') : RdF w' ad cap l := RdS.keep0 h bolies.len k
def BhOk (w : World) (h : Bh) : Prop := h.n = h.l.length ∧ RdF w h.ad h.cap h.l
def RdM (w : World) (ad : Option Addr) (cap : Nat) (hs : List Bh) : Prop := RdS bhcells 1 w ad cap hs ∧ ∀ h ∈ hs, BhOk w h
theorem RdM.keep0 {w w' : World} {ad : Option Addr} {cap : Nat} {hs : List Bh} (h : RdM w ad cap hs) (k : Kp [] w w') : RdM w' ad cap hs := ⟨h.1.keep0 bhlies.len k, fun x hx => ⟨(h.2 x hx).1, (h.2 x hx).2.keep0 k⟩⟩
def rowF (S : List (List Bool)) (i : Nat) : List Bool := S.getD i []
def lisF (hs : List Bh) : List (List Bool) := hs.map (·.l)
theorem rowF_lis (hs : List Bh) (i : Nat) (h : i < hs.length) : rowF (lisF hs) i = hs[i].l := by simp [rowF, lisF, h]
theorem RdM.at' {w : World} {ad : Option Addr} {cap : Nat} {hs : List Bh} (h : RdM w ad cap hs) (i : Nat) (hi : i < hs.length) :
    ∃ (b off : Nat) (ra : Option Addr) (n rc : Nat), ad = some ⟨b, off, none⟩ ∧ w.cell? ⟨b, off + i, none⟩ = some (.slice ra n rc) ∧ n = (rowF (lisF hs) i).length ∧ RdF w ra rc (rowF (lisF hs) i) := by
  obtain ⟨b, off, h1, h2⟩ := h.1.2.2 i hi
  obtain ⟨h3, h4⟩ := h.2 hs[i] (List.getElem_mem hi)
  have h5 := h2 0 (by omega)
  rw [rowF_lis hs i hi]
  exact ⟨b, off, _, _, _, h1, by simpa [bhcells] using h5, h3, h4⟩
/-- A flag. -/
def nthF (l : List Bool) (i : Nat) : Bool := l.getD i false
theorem RdF.at' {w : World} {ad : Option Addr} {cap : Nat} {l : List Bool} (h : RdF w ad cap l) (i : Nat) (hi : i < l.length) : ∃ b off, ad = some ⟨b, off, none⟩ ∧ w.cell? ⟨b, off + i, none⟩ = some (.bool (nthF l i)) := by
  obtain ⟨b, off, h1, h2⟩ := h.2.2 i hi
  refine ⟨b, off, h1, ?_⟩
  have := h2 0 (by omega)
  simpa [bocells, nthF, hi] using this

section
open Go.Deep Go.Joins Go.ChangeShapes Go.WideShapes
variable {H : Type} {enc : TypeId × Value → H} {w : World} {base : Nat} {spare : Nat → Bool} {held : Bool}
theorem rd_in {ad : Option Addr} {l c m : Nat} {zs : List Int} {x : Addr} (hl : l ≤ c) (hm : c ≤ maxLen) (hz : l ≤ zs.length) (hcell : ∀ i, i < zs.length → w.cell? (x.add i) = some (.int .i64 (zs.getD i 0))) : Rd w .i64 (some x) c (zs.take l) := by
  have hlen : (zs.take l).length = l := by simp; omega
  refine ⟨by omega, by unfold maxLen at hm; omega, fun i hi => ?_⟩
  rw [hlen] at hi
  have h0 := hcell 0 (by omega)
  obtain ⟨b, off, spot⟩ := x
  have hspot : spot = none := by simpa [Addr.add] using World.cell?_spot h0
  subst hspot
  refine ⟨b, off, rfl, ?_⟩
  have h1 := hcell i (by omega)
  rw [Addr.add_lit] at h1
  rw [h1]
  have e1 : (zs.take l)[i]? = zs[i]? := by rw [List.getElem?_take, if_pos hi]
  simp only [nth, List.getD_eq_getElem?_getD, e1]
theorem open_ih {n : Nat} {cs : List Value} {y : DataW H × List MemPlace} (h : DataW.trod enc Try.prog w base spare held n 23 cs = some y) : ∃ x : Ih, cs = icells x ∧ IhOk w x := by
  rcases open_ints Try.underlying23 Try.underlying3 (by kernel_rfl) h with ⟨hcs, _⟩ | ⟨x, l, c, zs, hcs, _, hl, hm, hz, _, hcell, hwz⟩
  · exact ⟨⟨none, 0, 0, []⟩, hcs, rfl, ⟨by simp, by show 0 ≤ _; omega, fun i hi => by simp at hi⟩⟩
  · have hle : l ≤ zs.length := by rw [hz]; split <;> omega
    exact ⟨⟨some x, l, c, zs.take l⟩, hcs, by simp; omega, rd_in (ad := none) (m := 0) hl hm hle hcell⟩
theorem open_lh {n : Nat} {cs : List Value} {y : DataW H × List MemPlace} (h : DataW.trod enc Try.prog w base spare held n 32 cs = some y) : ∃ x : Ih, cs = icells x ∧ IhOk w x := by
  rcases open_ints Try.underlying32 Try.underlying2 (by kernel_rfl) h with ⟨hcs, _⟩ | ⟨x, l, c, zs, hcs, _, hl, hm, hz, _, hcell, hwz⟩
  · exact ⟨⟨none, 0, 0, []⟩, hcs, rfl, ⟨by simp, by show 0 ≤ _; omega, fun i hi => by simp at hi⟩⟩
  · have hle : l ≤ zs.length := by rw [hz]; split <;> omega
    exact ⟨⟨some x, l, c, zs.take l⟩, hcs, by simp; omega, rd_in (ad := none) (m := 0) hl hm hle hcell⟩
theorem open_fl {ad : Option Addr} {len cap fuel : Nat} {x : DataW H × List MemPlace} (h : DataW.trod enc Try.prog w base spare held fuel 63 [.slice ad len cap] = some x) : ∃ l : List Bool, l.length = len ∧ RdF w ad cap l ∧ ∀ v ∈ l, True :=
  open_rows bocells 1 (fun _ => True) Try.underlying63 (by kernel_rfl) (by omega) bolies.len (fun n cs y hl hy => by
    obtain ⟨b, rfl, -⟩ := DataW.trod_bool Try.underlying4 hy
    exact ⟨b, rfl, trivial⟩) h
theorem open_bh {n : Nat} {cs : List Value} {y : DataW H × List MemPlace} (h : DataW.trod enc Try.prog w base spare held n 63 cs = some y) : ∃ x : Bh, cs = bhcells x ∧ BhOk w x := by
  obtain ⟨a, len, cap, rfl⟩ := slice_form Try.underlying63 h
  obtain ⟨l, rfl, h2, -⟩ := open_fl h
  exact ⟨⟨a, l.length, cap, l⟩, rfl, rfl, h2⟩
theorem open_ihs {ad : Option Addr} {len cap fuel : Nat} {x : DataW H × List MemPlace} (h : DataW.trod enc Try.prog w base spare held fuel 22 [.slice ad len cap] = some x) : ∃ l : List Ih, l.length = len ∧ RdS icells 1 w ad cap l ∧ ∀ v ∈ l, IhOk w v :=
  open_rows icells 1 (IhOk w) Try.underlying22 (by kernel_rfl) (by omega) ilies.len (fun n cs y hl hy => open_ih hy) h
theorem open_lhs {ad : Option Addr} {len cap fuel : Nat} {x : DataW H × List MemPlace} (h : DataW.trod enc Try.prog w base spare held fuel 24 [.slice ad len cap] = some x) : ∃ l : List Ih, l.length = len ∧ RdS icells 1 w ad cap l ∧ ∀ v ∈ l, IhOk w v :=
  open_rows icells 1 (IhOk w) Try.underlying24 (by kernel_rfl) (by omega) ilies.len (fun n cs y hl hy => open_lh hy) h
theorem open_bhs {ad : Option Addr} {len cap fuel : Nat} {x : DataW H × List MemPlace} (h : DataW.trod enc Try.prog w base spare held fuel 62 [.slice ad len cap] = some x) : ∃ l : List Bh, l.length = len ∧ RdS bhcells 1 w ad cap l ∧ ∀ v ∈ l, BhOk w v :=
  open_rows bhcells 1 (BhOk w) Try.underlying62 (by kernel_rfl) (by omega) bhlies.len (fun n cs y hl hy => open_bh hy) h
end
end Go.Proofs.Ythmaobmgogmaoaa
