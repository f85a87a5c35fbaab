/-
  Sections: where a name stands; whether sections may be.
-/
import Derived.Test.YtfacpfogdcefpaaSec
namespace Go.Proofs.Ytfacpfogdcefpaa
open Go.RowKit
set_option linter.unusedSimpArgs false
set_option linter.unusedVariables false

/-- A section, as it lies in memory. -/
structure Sec where
  nm : ByteArray
  ad : Option Addr
  cap : Nat
  bs : List Int
instance : Inhabited Sec := ⟨⟨⟨#[]⟩, none, 0, []⟩⟩
def scells (x : Sec) : List Value := [.string x.nm, .slice x.ad x.bs.length x.cap]
theorem slies : Lies scells 2 := ⟨fun _ => rfl, fun x v hv => by simp [scells] at hv; rcases hv with rfl | rfl <;> rfl, by omega⟩
/-- A slice of sections. -/
def RdX (w : World) (ad : Option Addr) (cap : Nat) (l : List Sec) : Prop := RdS scells 2 w ad cap l
def RdXs (w : World) (l : List Sec) : Prop := ∀ x ∈ l, Rd w .u8 x.ad x.cap x.bs
theorem RdX.at' {w : World} {ad : Option Addr} {cap : Nat} {l : List Sec} (h : RdX w ad cap l) (i : Nat) (hi : i < l.length) :
    ∃ b off, ad = some ⟨b, off, none⟩ ∧ w.cell? ⟨b, off + i * 2, none⟩ = some (.string l[i].nm) ∧ w.cell? ⟨b, off + i * 2 + 1, none⟩ = some (.slice l[i].ad l[i].bs.length l[i].cap) := by
  obtain ⟨b, off, h1, h2⟩ := h.2.2 i hi
  exact ⟨b, off, h1, h2 0 (by omega), h2 1 (by omega)⟩
theorem RdX.keep0 {w w' : World} {ad : Option Addr} {cap : Nat} {l : List Sec} (h : RdX w ad cap l) (k : Kp [] w w') : RdX w' ad cap l := RdS.keep0 h slies.len k
theorem RdX.keep {w w' : World} {ad : Option Addr} {cap : Nat} {l : List Sec} (h : RdX w ad cap l) {S : List Nat} (k : Kp S w w') (hn : ∀ x, ad = some x → l ≠ [] → x.block ∉ S) : RdX w' ad cap l := RdS.keep h slies.len k hn
theorem RdX.lt {w : World} {ad : Option Addr} {cap : Nat} {l : List Sec} (h : RdX w ad cap l) : ∀ x, ad = some x → l ≠ [] → x.block < w.heap.size := RdS.lt h (by omega) slies.len
theorem RdXs.keep0 {w w' : World} {l : List Sec} (h : RdXs w l) (k : Kp [] w w') : RdXs w' l := fun x hx => (h x hx).keep0 k

/-- Where a text stands first among others. -/
def fnd : List ByteArray → ByteArray → Nat → Int
  | [], _, _ => -1
  | x :: l, s, i => if x.toList == s.toList then (i : Int) else fnd l s (i + 1)
def fndX (l : List Sec) (s : ByteArray) : Int := fnd (l.map (·.nm)) s 0
theorem fnd_step (l : List Sec) (s : ByteArray) (k : Nat) (h : k < l.length) : fnd ((l.map (·.nm)).drop k) s k = if (l[k].nm).toList == s.toList then (k : Int) else fnd ((l.map (·.nm)).drop (k + 1)) s (k + 1) := by
  rw [List.drop_eq_getElem_cons (by simpa using h), fnd]; simp
theorem fnd_bound : ∀ (l : List ByteArray) (s : ByteArray) (i : Nat), -1 ≤ fnd l s i ∧ fnd l s i < i + l.length ∨ fnd l s i = -1
  | [], s, i => .inr rfl
  | x :: l, s, i => by
    rw [fnd]
    split
    · left; simp; omega
    · rcases fnd_bound l s (i + 1) with h | h
      · left; simp only [List.length_cons]; omega
      · exact .inr h

end Go.Proofs.Ytfacpfogdcefpaa
