/-
  What isinglassref01.Little tells.
-/
import Derived.Test.YthmaobmgogmaoaaBase
namespace Go.Proofs.Ythmaobmgogmaoaa
open Go.RowKit
set_option linter.unusedSimpArgs false
set_option linter.unusedVariables false

set_option maxHeartbeats 400000 in
theorem little_any (n size : Nat) (w : World) (hn : n < 18446744073709551616) (hs : size ≤ 1000000) :
    Calls Try.prog 45 #[.int .u64 n, .int .i64 size] w fun e w' => ∃ ad cap, e = .returned (.slice ad size cap) ∧ Own w' w.heap.size 5 .u8 ad cap (le n size) ∧ Kp [] w w' := by
  have HN := Lib.hid hn
  clear hn
  go_enter Try.func45, Try.ntmps45
  go_wp2
  go_loopw [0, 5, 6] (fun vn vo i wr => ∃ (k : Nat) (ad : Option Addr) (cap : Nat), k ≤ size ∧ i = .int .i64 k ∧ vn = .int .u64 ((n / 256 ^ k : Nat) : Int) ∧ vo = .slice ad k cap ∧ Own wr w.heap.size 5 .u8 ad cap (le n k) ∧ Kp [] w wr) (fun _ _ i _ => size - (intOf i).toNat)
  case atStart => exact ⟨0, none, 0, Nat.zero_le _, rfl, by simp, rfl, Own.nil _ _ _ _, Kp.refl _ _⟩
  case round =>
    obtain ⟨k, ad, cap, hk, rfl, rfl, rfl, ho, kp⟩ := hrel
    by_cases hlt : k < size
    · obtain ⟨m, hm⟩ : ∃ m, m = n / 256 ^ k := ⟨_, rfl⟩
      rw [← hm]
      have HM := Lib.hid hm
      have hsz := kp.size
      have hmb : m < 18446744073709551616 := by rw [hm]; exact Nat.lt_of_le_of_lt (Nat.div_le_self _ _) HN.out
      clear hm
      go_wp2_with (at_builtin; go_must (refine wpList_app rfl _ _ 46 46 rfl w.heap.size 5 .u8 1 Try.underlying46 infoU8 ad cap k (le n k) (by simp [le_length]) [(m : Int) % 256] _ 1 rfl rfl rfl (ho.alloc _) (src_one Try.underlying46 (World.cell?_alloc_at _ _ _ _ rfl)) (by omega) (by omega) (by simp; omega) ?_); intro ad2 cap2 w2 ho2 kp2 hob2 _)
      go_roundw
      case rel =>
        refine ⟨k + 1, ad2, cap2, hlt, by go_num, ?_, rfl, ?_, ?_⟩
        · rw [HM.out, Nat.pow_succ, ← Nat.div_div_eq_div_mul]; simp
        · rw [le_snoc]
          rw [HM.out] at ho2
          exact ho2
        · exact (kp.alloc _).trans kp2 (by simp) (fun x hx => .inr (ho.ob_ge x hx).1)
      case measure => simp [intOf]; omega
    · obtain rfl : k = size := by omega
      go_wp2
      go_ret
      exact ⟨ad, cap, rfl, ho, kp⟩
end Go.Proofs.Ythmaobmgogmaoaa
