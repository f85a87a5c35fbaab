/-
  Star-trees: how many bytes they are laid out in.
-/
import Derived.Test.YthmaobmgogmaoaaStbF
import Derived.Test.YthmaobmgogmaoaaStbD
import Derived.Test.YthmaobmgogmaoaaStaT
namespace Go.Proofs.Ythmaobmgogmaoaa
open Go.RowKit Go.Shelf
set_option linter.unusedSimpArgs false
set_option linter.unusedVariables false
set_option maxRecDepth 100000

theorem flat_bd {α : Type} (f : α → List Int) (c : Nat) : ∀ (l : List α), (∀ a ∈ l, (f a).length ≤ c) → (l.flatMap f).length ≤ c * l.length
  | [], _ => by simp
  | a :: l, h => by
    have h1 := flat_bd f c l (fun x hx => h x (by simp [hx]))
    have h2 := h a (by simp)
    simp only [List.flatMap_cons, List.length_append, List.length_cons, Nat.mul_succ]
    omega
theorem recB_len (r : PR) : (recB r).length = 4 * r.ids.length + 8 + 24 * r.ms.length := by
  have h1 : ∀ l : List Int, (l.flatMap idB).length = 4 * l.length := fun l => by
    induction l with
    | nil => rfl
    | cons a t ih => rw [List.flatMap_cons, List.length_append, ih, List.length_cons]; simp [idB, le_length]; omega
  have h2 : ∀ l : List S3, (l.flatMap sumB).length = 24 * l.length := fun l => by
    induction l with
    | nil => rfl
    | cons a t ih => rw [List.flatMap_cons, List.length_append, ih, List.length_cons]; simp [sumB, le_length]; omega
  unfold recB
  rw [List.length_append, List.length_append, h1, h2, le_length]
theorem nodeB_len (n : PN) : (nodeB n).length = 13 + 8 * n.kids.length := by
  have h1 : ∀ l : List (Int × Nat), (l.flatMap kidB).length = 8 * l.length := fun l => by
    induction l with
    | nil => rfl
    | cons a t ih => rw [List.flatMap_cons, List.length_append, ih, List.length_cons]; simp [kidB, le_length]; omega
  unfold nodeB
  simp only [List.length_append, h1, le_length]
theorem node_few {leaf k : Nat} {R : List PR} {N : List PN} {i : Nat} {y : PN} (h : NodeIs leaf k R N i y) : y.kids.length ≤ 81 := by
  have h1 := h.few
  have h2 := csum_nonneg (fun x hx => (h.ok.1 x hx).2.2)
  rw [seg_length _ h.tR] at h2
  have := h.ok.2
  omega
/-- The bytes are not many. -/
theorem tree_bytes {T k mt leaf B : Nat} {X : Nat → Prop} {ra : Option Addr} {rc : Nat} {RL : List Rc} {na : Option Addr} {nc : Nat} {NL : List Nh} {w : World} (h : TreeH T k mt leaf B X ra rc RL na nc NL w) (hk8 : k ≤ 8) (hmt : mt ≤ 10) (hR : RL.length ≤ 100000) (hN : NL.length ≤ 100000000)
    (hnode : ∀ y ∈ NL, y.kids.length ≤ 81) : (∀ y ∈ NL, y.kids.length ≤ 100000000) ∧ ((RL.map (pr k)).flatMap recB).length ≤ 420000000000 ∧ ((NL.map pn).flatMap nodeB).length ≤ 420000000000 := by
  refine ⟨fun y hy => by have := hnode y hy; omega, ?_, ?_⟩
  · have h1 := flat_bd recB 280 (RL.map (pr k)) (fun a ha => by
      obtain ⟨x, hx, rfl⟩ := List.mem_map.1 ha
      have h2 := (h.good x hx).2.1
      rw [recB_len]
      have e1 : (pr k x).ids.length = k := by simp [pr]
      have e2 : (pr k x).ms.length = mt := h2
      omega)
    rw [List.length_map] at h1; omega
  · have h1 := flat_bd nodeB 661 (NL.map pn) (fun a ha => by
      obtain ⟨x, hx, rfl⟩ := List.mem_map.1 ha
      have h2 := hnode x hx
      rw [nodeB_len]
      show 13 + 8 * x.kids.length ≤ 661
      omega)
    rw [List.length_map] at h1; omega
/-- All that a law asks of a tree that was built. -/
theorem built_few {S M : List (List Int)} {many : List Int} {lf : Nat} {NL : List Nh} {R : List PR} (hmay : mayS S many M (lf : Int) = true) (hr : (rowP S 0).length ≤ 80) (hEq : (⟨R, NL.map pn⟩ : St) = ofP S M lf) : ∀ y ∈ NL, y.kids.length ≤ 81 := by
  obtain ⟨-, hnode, -⟩ := nodes_law (S := S) (M := M) (leaf := lf) (n := (rowP S 0).length) rfl hr (mayS_ge hmay)
  rw [← hEq] at hnode
  intro y hy
  obtain ⟨i, hi, rfl⟩ := List.getElem_of_mem hy
  obtain ⟨z, hz1, hz2⟩ := hnode i (by simpa using hi)
  have e : z = pn NL[i] := by rw [List.getElem?_map, List.getElem?_eq_getElem hi] at hz1; cases hz1; rfl
  have := node_few hz2
  rw [e] at this
  exact this
theorem treeB_pos (k mt : Nat) (R : List PR) (N : List PN) : 0 < (treeB k mt R N).length := by
  unfold treeB
  rw [List.length_append, List.length_append, List.length_append, headB_length]; omega

end Go.Proofs.Ythmaobmgogmaoaa
