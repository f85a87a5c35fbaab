/-
  What package cursor's writers, and isinglassref01.Short, tell.
-/
import Derived.Test.YtgdiffabnalidaaCursorN
import Derived.Test.YtgdiffabnalidaaRef01
namespace Go.Proofs.Ytgdiffabnalidaa
open Go.RowKit
set_option linter.unusedSimpArgs false
set_option linter.unusedVariables false

/-- A short number's bytes. -/
def sh : Nat → Nat → List Int
  | 0, n => [(n : Int)]
  | f + 1, n => if n < 128 then [(n : Int)] else ((n % 128 + 128 : Nat) : Int) :: sh f (n / 128)
def short (n : Nat) : List Int := sh 9 n
theorem sh_small (f n : Nat) (h : n < 128) : sh f n = [(n : Int)] := by cases f <;> simp [sh, h]
theorem sh_big (f n : Nat) (h : ¬ n < 128) : sh (f + 1) n = ((n % 128 + 128 : Nat) : Int) :: sh f (n / 128) := by rw [sh, if_neg h]
theorem sh_length (f : Nat) : ∀ n, 1 ≤ (sh f n).length ∧ (sh f n).length ≤ f + 1 := by
  induction f with
  | zero => intro n; simp [sh]
  | succ f ih =>
    intro n
    simp only [sh]
    split
    · simp
    · have := ih (n / 128); simp only [List.length_cons]; omega
theorem short_length (n : Nat) : 1 ≤ (short n).length ∧ (short n).length ≤ 10 := sh_length 9 n
theorem sh_bytes (f : Nat) : ∀ n, n < 128 ^ (f + 1) → Bytes8 (sh f n) := by
  induction f with
  | zero => intro n hn z hz; simp [sh] at hz; subst hz; simp at hn; omega
  | succ f ih =>
    intro n hn z hz
    simp only [sh] at hz
    split at hz
    · simp at hz; subst hz; omega
    · rcases List.mem_cons.1 hz with rfl | hz
      · omega
      · exact ih (n / 128) (by rw [Nat.pow_succ] at hn; omega) z hz
theorem short_bytes (n : Nat) (h : n < 18446744073709551616) : Bytes8 (short n) := sh_bytes 9 n (Nat.lt_of_lt_of_le h (by decide))

theorem or128_fin : ∀ y : Fin 256, bits BinOp.or IntKind.u8 ((y.val : Nat) : Int) 128 = ((y.val % 128 + 128 : Nat) : Int) := by decide +kernel
theorem or128 (x : Nat) : bits BinOp.or IntKind.u8 ((x : Int) % 256) 128 = ((x % 128 + 128 : Nat) : Int) := by
  have := or128_fin ⟨x % 256, Nat.mod_lt _ (by omega)⟩
  simp only at this
  rw [show ((x : Int) % 256) = ((x % 256 : Nat) : Int) by omega, this]
  congr 1; omega

set_option maxHeartbeats 400000 in
theorem fixed_any (ad : Option Addr) (cap n size : Nat) (z : Int) (zs : List Int) (hn : n = zs.length) (w : World) (hr : Rd w .u8 ad cap zs) (hb : n + size ≤ 1099511627776) (h0 : 0 ≤ z) :
    Calls Try.prog 56 #[.slice ad n cap, .int .u64 z, .int .i64 size] w fun e w' => ∃ ad' cap', e = .returned (.slice ad' (n + size) cap') ∧ Own w' w.heap.size 5 .u8 ad' cap' (zs ++ le z.toNat size) ∧ Kp [] w w' := by
  obtain ⟨m, rfl⟩ := Int.eq_ofNat_of_zero_le h0
  rw [Int.toNat_natCast]
  have HN := Lib.hid hn
  have HR := Lib.hid hr
  clear hn hr h0
  go_enter Try.func56, Try.ntmps56
  go_wp2_with fail
  refine (clone_any ad cap n zs HN.out w HR.out (by omega)).mono ?_
  rintro e w1 ⟨ad1, cap1, rfl, ho1, kp1⟩
  go_wp2_with fail
  go_loopw [0, 1, 10] (fun vb vn i wr => ∃ (k : Nat) (ad' : Option Addr) (cap' : Nat), k ≤ size ∧ i = .int .i64 k ∧ vn = .int .u64 ((m / 256 ^ k : Nat) : Int) ∧ vb = .slice ad' (n + k) cap' ∧ Own wr w.heap.size 5 .u8 ad' cap' (zs ++ le m k) ∧ Kp [] w wr) (fun _ _ i _ => size - (intOf i).toNat)
  case atStart => exact ⟨0, ad1, cap1, Nat.zero_le _, rfl, by simp, rfl, by simpa [le] using ho1, kp1⟩
  case round =>
    obtain ⟨k, ad', cap', hk, rfl, rfl, rfl, ho2, kp2⟩ := hrel
    by_cases hlt : k < size
    · obtain ⟨x, hx⟩ : ∃ x, x = m / 256 ^ k := ⟨_, rfl⟩
      rw [← hx]
      have HX := Lib.hid hx
      have HO := Lib.hid ho2
      have hs2 := kp2.size
      clear hx ho1 ho2
      go_wp2_with (at_builtin; go_must (refine wpList_app rfl _ _ 24 24 rfl w.heap.size 5 .u8 1 Try.underlying24 infoU8 ad' cap' (n + k) (zs ++ le m k) (by simp [le_length, HN.out]) [(x : Int) % 256] _ 1 rfl rfl rfl (HO.out.alloc _) (src_one Try.underlying24 (World.cell?_alloc_at _ _ _ _ rfl)) (by omega) (by omega) (by simp; omega) ?_); intro ad2 cap2 w2 ho3 kp3 hob3 _)
      go_roundw
      case rel =>
        refine ⟨k + 1, ad2, cap2, hlt, by go_num, ?_, rfl, ?_, ?_⟩
        · rw [HX.out, Nat.pow_succ, ← Nat.div_div_eq_div_mul]; simp
        · rw [le_snoc, ← List.append_assoc]; rw [HX.out] at ho3; exact ho3
        · exact (kp2.alloc _).trans kp3 (by simp) (fun x hx => .inr (HO.out.ob_ge x hx).1)
      case measure => simp [intOf]; omega
    · have hkk : k = size := by omega
      subst hkk
      go_wp2
      go_ret
      exact ⟨ad', cap', rfl, ho2, kp2⟩

theorem appU32_any (ad : Option Addr) (cap n : Nat) (z : Int) (zs : List Int) (hn : n = zs.length) (w : World) (hr : Rd w .u8 ad cap zs) (hb : n ≤ 1099511627000) (h0 : 0 ≤ z) (h1 : z ≤ 4294967295) :
    Calls Try.prog 43 #[.slice ad n cap, .int .u32 z] w fun e w' => ∃ ad' cap', e = .returned (.slice ad' (n + 4) cap') ∧ Own w' w.heap.size 5 .u8 ad' cap' (zs ++ le z.toNat 4) ∧ Kp [] w w' := by
  have HN := Lib.hid hn
  have HR := Lib.hid hr
  clear hn hr
  go_enter Try.func43, Try.ntmps43
  go_wp2_with fail
  refine (fixed_any ad cap n 4 z zs HN.out w HR.out (by omega) h0).mono ?_
  rintro e w1 ⟨ad1, cap1, rfl, ho1, kp1⟩
  go_wp2_with fail
  go_ret
  exact ⟨ad1, cap1, rfl, ho1, kp1⟩
/-- How far a short number is written. -/
def ShAt (m x : Nat) (pre : List Int) : Prop := ∃ f, short m = pre ++ sh f x ∧ x < 128 ^ (f + 1) ∧ pre.length + f ≤ 9 ∧ x < 18446744073709551616
theorem ShAt.start (m : Nat) (h : m < 18446744073709551616) : ShAt m m [] := ⟨9, rfl, Nat.lt_of_lt_of_le h (by decide), by simp, h⟩
theorem ShAt.step {m x : Nat} {pre : List Int} (h : ShAt m x pre) (hx : ¬ x < 128) : ShAt m (x / 128) (pre ++ [((x % 128 + 128 : Nat) : Int)]) ∧ pre.length ≤ 9 := by
  obtain ⟨f, h1, h2, h3, h4⟩ := h
  cases f with
  | zero => simp at h2; omega
  | succ f =>
    refine ⟨⟨f, ?_, ?_, ?_, by omega⟩, by omega⟩
    · rw [h1, sh_big f x hx]; simp
    · rw [Nat.pow_succ] at h2; omega
    · simp; omega
theorem ShAt.lt {m x : Nat} {pre : List Int} (h : ShAt m x pre) : x < 18446744073709551616 := let ⟨_, _, _, _, h4⟩ := h; h4
theorem ShAt.last {m x : Nat} {pre : List Int} (h : ShAt m x pre) (hx : x < 128) : short m = pre ++ [(x : Int)] ∧ pre.length ≤ 9 := by
  obtain ⟨f, h1, h2, h3, h4⟩ := h
  exact ⟨by rw [h1, sh_small f x hx], by omega⟩

end Go.Proofs.Ytgdiffabnalidaa
