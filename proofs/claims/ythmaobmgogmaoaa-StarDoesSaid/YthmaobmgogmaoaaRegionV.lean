/-
  Three slices of numbers that grow side by side in one drawn region.
-/
import Derived.Test.YthmaobmgogmaoaaRegionU
import Derived.Test.YthmaobmgogmaoaaRegionT
namespace Go.Proofs.Ythmaobmgogmaoaa
open Go.RowKit
set_option linter.unusedSimpArgs false
set_option linter.unusedVariables false

section
variable {P : Program} {e : TypeId} {k : IntKind}
theorem exec_app3 {ops : Array Oper} {o : Oper} {a : Act} {w : World} {S : List Nat} {B0 B n : Nat} {I : World → Prop} {X : Value → Prop} (hw : Region.wanted o (yielded ops a.tmps) = true) (s y : Operand) (t tx : TypeId)
    (hop : o.op = Op.call { callee := Callee.builtin Builtin.append, args := #[s, y], argTypes := #[t, tx] }) (by' : Nat)
    (ht : P.underlying t = some (.slice e)) (hi : (P.info? e).map (fun i => (i.zero, i.size, i.bytes)) = some (some (.int k 0), 1, by'))
    (hlt : ∀ x ∈ S, x < B0) (hB0 : B0 ≤ w.heap.size)
    (ad : Option Addr) (cap : Nat) (zs : List Int) (x : Int) (ad1 : Option Addr) (cap1 : Nat) (zs1 : List Int) (x1 : Int) (b1 : Bool) (ad2 : Option Addr) (cap2 : Nat) (zs2 : List Int) (x2 : Int) (b2 : Bool)
    (l0 : n = zs.length) (l1 : n = zs1.length) (l2 : n = zs2.length)
    (m0 : ∀ b ∈ ob ad cap, b ∈ S) (m1 : ∀ b ∈ ob ad1 cap1, b ∈ S) (m2 : ∀ b ∈ ob ad2 cap2, b ∈ S)
    (a1 : ∀ b ∈ ob ad cap, b ∉ ob ad1 cap1) (a2 : ∀ b ∈ ob ad cap, b ∉ ob ad2 cap2)
    (h0 : AppI B e k ad cap (n + 1) zs x false w) (h1 : AppI B e k ad1 cap1 (n + 1) zs1 x1 b1 w) (h2 : AppI B e k ad2 cap2 (n + 1) zs2 x2 b2 w)
    (yv : Value) (he : a.eval s = .slice ad n cap) (hye : a.eval y = yv) (hs : Src P 1 tx yv 1 [.int k x] w) (hb : (n + 1) * by' ≤ 140737488355328) (hb2 : n + 1 ≤ 9223372036854775807)
    (hI : ∀ w', AppI B e k ad cap (n + 1) zs x true w' → AppI B e k ad1 cap1 (n + 1) zs1 x1 b1 w' → AppI B e k ad2 cap2 (n + 1) zs2 x2 b2 w' → I w')
    (hX : ∀ v, (∀ u, (SVS.app (S := S) B0 hlt e k ad1 cap1 (n + 1) (zs1 ++ [x1])).p u w → v ≠ u) → (∀ u, (SVS.app (S := S) B0 hlt e k ad2 cap2 (n + 1) (zs2 ++ [x2])).p u w → v ≠ u) → X v) :
    Region.wanted o (yielded ops a.tmps) = true ∧ ExecV P ops (fun u y => Kp S u y ∧ I y) (fun v y => (SVS.app (S := S) B0 hlt e k ad cap (n + 1) (zs ++ [x])).p v y ∧ X v) o a w := by
  have hx : ∀ (v : Value) (w' : World), ((n + 1 ≤ cap ∧ v = .slice ad (n + 1) cap) ∨ ∃ ad' cap', cap < n + 1 ∧ v = .slice ad' (n + 1) cap' ∧ Own w' w.heap.size e k ad' cap' (zs ++ [x])) → X v := fun v w' hv =>
    hX v (fun u hu => app_dif (hS := hlt) (by omega) hv h0.off (fun b hb => hlt b (m0 b hb)) a1 h1 (fun b hb => hlt b (m1 b hb)) (by simp [l0]) (by simp [l1]) hu)
      (fun u hu => app_dif (hS := hlt) (by omega) hv h0.off (fun b hb => hlt b (m0 b hb)) a2 h2 (fun b hb => hlt b (m2 b hb)) (by simp [l0]) (by simp [l2]) hu)
  refine exec_app_or hw s y t tx hop B by' ht hi ad cap n zs l0 [x] yv 1 rfl he hye h0.off hs hb hb2 (fun w' hr g1 g2 => ?_) (fun ad' cap' w' hc g1 g2 => ?_)
  · exact ⟨⟨.inl ⟨hr, rfl⟩, hx _ w' (.inl ⟨hr, rfl⟩)⟩, g2.wide m0, hI w' (AppI.room hr g1) (h1.keep g2 (fun b hb hb2 => a1 b hb2 hb)) (h2.keep g2 (fun b hb hb2 => a2 b hb2 hb))⟩
  · exact ⟨⟨.inr ⟨ad', cap', hc, rfl, g1.mono hB0⟩, hx _ w' (.inr ⟨ad', cap', hc, rfl, g1⟩)⟩, g2.wide (by simp), hI w' (AppI.grow hc (h0.off.keep0 g2)) (h1.keep g2 (by simp)) (h2.keep g2 (by simp))⟩
end
end Go.Proofs.Ythmaobmgogmaoaa
