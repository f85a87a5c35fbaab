/-
  Values: plain laws of the order.
-/
import Derived.Test.YtfacpfogdcefpaaVal4
namespace Go.Proofs.Ytfacpfogdcefpaa
open Go.RowKit
set_option linter.unusedSimpArgs false
set_option linter.unusedVariables false

def T3 (x y z : Int) : Prop := (x ≤ 0 → y ≤ 0 → z ≤ 0 ∧ (z = 0 → x = 0 ∧ y = 0)) ∧ (x = 0 → z = y) ∧ (y = 0 → z = x)
theorem cmpI_T3 (a b c : Int) : T3 (cmpI a b) (cmpI b c) (cmpI a c) := by
  unfold T3 cmpI
  repeat' split
  all_goals omega
theorem cmpS_T3 (a b c : ByteArray) : T3 (cmpS a b) (cmpS b c) (cmpS a c) := by
  unfold T3 cmpS
  generalize a.toList = x
  generalize b.toList = y
  generalize c.toList = z
  have key : ∀ u v : List UInt8, (Op.bytesLess u v = true ∧ (u == v) = false) ∨ (Op.bytesLess u v = false ∧ u = v) ∨ (Op.bytesLess u v = false ∧ (u == v) = false ∧ Op.bytesLess v u = true) := by
    intro u v
    rcases bl_tri u v with h | h | h
    · refine .inl ⟨h, ?_⟩
      cases k : u == v
      · rfl
      · rw [beq_iff_eq.1 k, bl_irrefl] at h; simp at h
    · exact .inr (.inl ⟨by rw [h]; exact bl_irrefl _, h⟩)
    · refine .inr (.inr ⟨bl_asymm _ _ h, ?_, h⟩)
      cases k : u == v
      · rfl
      · rw [beq_iff_eq.1 k, bl_irrefl] at h; simp at h
  rcases key x y with ⟨h1, h2⟩ | ⟨h1, rfl⟩ | ⟨h1, h2, h3⟩
  · rcases key y z with ⟨k1, k2⟩ | ⟨k1, rfl⟩ | ⟨k1, k2, k3⟩
    · simp [h1, k1, bl_trans x y z h1 k1]
    · simp [h1, k1]
    · simp [h1, h2, k1, k2]
  · simp [bl_irrefl]
  · rcases key y z with ⟨k1, k2⟩ | ⟨k1, rfl⟩ | ⟨k1, k2, k3⟩
    · simp [h1, h2, k1, k2]
    · simp [h1, h2, k1]
    · simp [h1, h2, k1, k2]
theorem cmpV_T3 (k n : Int) (s : ByteArray) (k' n' : Int) (s' : ByteArray) (k2 n2 : Int) (s2 : ByteArray) : T3 (cmpV k n s k' n' s') (cmpV k' n' s' k2 n2 s2) (cmpV k n s k2 n2 s2) := by
  have h1 := cmpI_T3 k k' k2
  have h2 := cmpI_T3 n n' n2
  have h3 := cmpS_T3 s s' s2
  unfold cmpV
  revert h1 h2 h3
  generalize cmpI k k' = a1
  generalize cmpI n n' = a2
  generalize cmpS s s' = a3
  generalize cmpI k' k2 = b1
  generalize cmpI n' n2 = b2
  generalize cmpS s' s2 = b3
  generalize cmpI k k2 = c1
  generalize cmpI n n2 = c2
  generalize cmpS s s2 = c3
  simp only [T3, orL]
  intro h1 h2 h3
  repeat' split
  all_goals omega
theorem cmpV_anti (k n : Int) (s : ByteArray) (k' n' : Int) (s' : ByteArray) : cmpV k' n' s' k n s = - cmpV k n s k' n' s' ∧ -1 ≤ cmpV k n s k' n' s' ∧ cmpV k n s k' n' s' ≤ 1 := by
  have h1 : cmpI k' k = - cmpI k k' ∧ -1 ≤ cmpI k k' ∧ cmpI k k' ≤ 1 := by unfold cmpI; repeat' split <;> omega
  have h2 : cmpI n' n = - cmpI n n' ∧ -1 ≤ cmpI n n' ∧ cmpI n n' ≤ 1 := by unfold cmpI; repeat' split <;> omega
  have h3 : cmpS s' s = - cmpS s s' ∧ -1 ≤ cmpS s s' ∧ cmpS s s' ≤ 1 := by
    unfold cmpS
    rcases bl_tri s.toList s'.toList with h | h | h
    · have h2 := bl_asymm _ _ h
      have h3 : ¬ s'.toList = s.toList := fun e => by rw [e, bl_irrefl] at h; simp at h
      simp [h, h2, h3]
    · simp [h, bl_irrefl]
    · have h2 := bl_asymm _ _ h
      have h3 : ¬ s.toList = s'.toList := fun e => by rw [e, bl_irrefl] at h; simp at h
      simp [h, h2, h3]
  unfold cmpV
  simp only [orL]
  repeat' split
  all_goals omega
theorem cmpV_zero (k n : Int) (s : ByteArray) (k' n' : Int) (s' : ByteArray) : cmpV k n s k' n' s' = 0 ↔ (k = k' ∧ n = n' ∧ s.toList = s'.toList) := by
  have h1 : cmpI k k' = 0 ↔ k = k' := by unfold cmpI; repeat' split <;> omega
  have h2 : cmpI n n' = 0 ↔ n = n' := by unfold cmpI; repeat' split <;> omega
  have h3 : cmpS s s' = 0 ↔ s.toList = s'.toList := by
    unfold cmpS
    split
    · rename_i h
      have : ¬ s.toList = s'.toList := fun e => by rw [e, bl_irrefl] at h; simp at h
      simp [this]
    · split <;> simp_all
  rw [← h1, ← h2, ← h3]
  unfold cmpV
  simp only [orL]
  repeat' split
  all_goals (constructor <;> intro _ <;> omega)
end Go.Proofs.Ytfacpfogdcefpaa
