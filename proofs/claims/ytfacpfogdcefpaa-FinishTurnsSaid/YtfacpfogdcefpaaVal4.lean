/-
  Values: the document's Compare.
-/
import Derived.Test.YtfacpfogdcefpaaVal3
namespace Go.Proofs.Ytfacpfogdcefpaa
open Go.RowKit
set_option linter.unusedSimpArgs false
set_option linter.unusedVariables false
set_option maxRecDepth 100000

def cmpL (k n : Int) (s : ByteArray) (k' n' : Int) (s' : ByteArray) : Int := if lessV k n s k' n' s' then -1 else if lessV k' n' s' k n s then 1 else 0
set_option maxHeartbeats 1600000 in
theorem r10Compare_any (k n : Int) (s : ByteArray) (k' n' : Int) (s' : ByteArray) (w : World) (hs : s.size ≤ 1000000) (hs' : s'.size ≤ 1000000) :
    Calls Try.prog 50 #[.agg #[.int .u8 k, .int .i64 n, .string s], .agg #[.int .u8 k', .int .i64 n', .string s']] w fun e w' => e = .returned (.int .i64 (cmpL k n s k' n' s')) ∧ Kp [] w w' := by
  cases h1 : lessV k n s k' n' s'
  · cases h2 : lessV k' n' s' k n s
    all_goals
      go_enter Try.func50, Try.ntmps50
      go_wp2_with (go_at_call 36; refine (r10Less_any _ _ _ _ _ _ _ (by assumption) (by assumption)).mono ?_; rintro e w2 ⟨rfl, kp2⟩; first | (rw [h1]; have HK := Lib.hid kp2; obtain ⟨A0, A1, A2⟩ := cells3 (kp2.get (k := w.heap.size) (cells_alloc (heap_alloc_at rfl)) (by simp)); obtain ⟨B0, B1, B2⟩ := cells3 (kp2.get (k := w.heap.size + 1) (heap_alloc_at (by simp)) (by simp)); clear kp2) | (rw [h2]; have kp3 := kp2))
      go_ret
      exact ⟨by simp [cmpL, h1, h2], ((((Kp.refl [] w).alloc _).alloc _).tr HK.out).tr kp3⟩
  · go_enter Try.func50, Try.ntmps50
    go_wp2_with (go_at_call 36; refine (r10Less_any k n s k' n' s' _ hs hs').mono ?_; rintro e w2 ⟨rfl, kp2⟩; rw [h1])
    go_ret
    exact ⟨by simp [cmpL, h1], (((Kp.refl [] w).alloc _).alloc _).tr kp2⟩

theorem cmpL_V (k n : Int) (s : ByteArray) (k' n' : Int) (s' : ByteArray) : cmpL k n s k' n' s' = cmpV k n s k' n' s' := by
  unfold cmpL cmpV lessV
  simp only [orL, cmpI, cmpS]
  rcases Int.lt_trichotomy k k' with h | h | h
  · simp [h, show ¬ k = k' by omega]
  · subst h
    rcases Int.lt_trichotomy n n' with h | h | h
    · simp [h, show ¬ n = n' by omega]
    · subst h
      rcases bl_tri s.toList s'.toList with h | h | h
      · simp [h]
      · simp [h, bl_irrefl]
      · have h2 := bl_asymm _ _ h
        have h3 : ¬ s.toList = s'.toList := fun e => by rw [e, bl_irrefl] at h; simp at h
        simp [h, h2, h3]
    · simp [h, show ¬ n = n' by omega, show ¬ n' = n by omega, show ¬ n < n' by omega]
  · simp [h, show ¬ k = k' by omega, show ¬ k' = k by omega, show ¬ k < k' by omega]
end Go.Proofs.Ytfacpfogdcefpaa
