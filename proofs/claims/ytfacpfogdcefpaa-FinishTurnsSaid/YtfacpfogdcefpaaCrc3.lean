/-
  What is framed, read again: plain laws; package crc's Unframe.
-/
import Derived.Test.YtfacpfogdcefpaaCrc2
import Derived.ChangeKeysEq
namespace Go.Proofs.Ytfacpfogdcefpaa
open Go.RowKit
set_option linter.unusedSimpArgs false
set_option linter.unusedVariables false

/-- The length that bytes begin with. -/
def unN (l : List Int) : Nat := leN (sub l 0 4)
/-- What is wrong with a frame. -/
def unfE (l : List Int) : Int :=
  if l.length < 4 then 4 else if 1073741824 < unN l then 3 else if l.length < unN l + 8 then 4 else if leN (sub l (4 + unN l) (4 + unN l + 4)) ≠ crc (sub l 4 (4 + unN l)) then 6 else 0
def unL (zs : List Int) (a : Int) : List Int := sub zs a.toNat zs.length
def unErr (zs : List Int) (a : Int) : Int := if 0 ≤ a ∧ a ≤ zs.length then unfE (unL zs a) else 2
def unX (zs : List Int) (a : Int) : List Int := if unErr zs a = 0 then sub (unL zs a) 4 (4 + unN (unL zs a)) else []
def unNext (zs : List Int) (a : Int) : Int := if unErr zs a = 0 then a + (unN (unL zs a) + 8 : Nat) else 0

theorem unL_length (zs : List Int) (a : Nat) (h : a ≤ zs.length) : (unL zs a).length = zs.length - a := by
  rw [unL, sub_length _ _ _ (Nat.le_refl _)]; simp
theorem unX_bytes {zs : List Int} (h : Bytes8 zs) (a : Int) : Bytes8 (unX zs a) := by
  unfold unX
  split
  · exact (h.sub _ _).sub _ _
  · intro z hz; simp at hz
theorem unX_length (zs : List Int) (a : Int) : (unX zs a).length ≤ zs.length := by
  unfold unX
  split
  · have h1 : (sub (unL zs a) 4 (4 + unN (unL zs a))).length ≤ (unL zs a).length := by simp [sub]; omega
    have h2 : (unL zs a).length ≤ zs.length := by simp [unL, sub]
    omega
  · simp

/-- The reader's steps, by what they come to. -/
theorem un_long {l : List Int} (hb : Bytes8 l) (h : 1073741824 < rdN l 0 false 4) : unfE l = 3 := by
  by_cases h4 : 4 ≤ l.length
  · obtain ⟨e1, -, -⟩ := rd_yes (bs := l) (a := 0) (n := 4) (by omega)
    rw [e1] at h
    unfold unfE
    rw [if_neg (by omega), if_pos (show 1073741824 < unN l from h)]
  · obtain ⟨e1, -, -⟩ := rd_no (bs := l) (a := 0) (b := false) (n := 4) (by simp; omega)
    rw [e1] at h; omega
/-- All that follows where the length is not too long. -/
theorem un_rest {l : List Int} (hb : Bytes8 l) {n a1 a2 a3 s : Nat} {b1 b2 b3 : Bool} {x : List Int} (hn : n = rdN l 0 false 4) (ha1 : a1 = rdA l 0 false 4) (hb1 : b1 = rdB l 0 false 4) (h : ¬ 1073741824 < n)
    (hx : x = rdS l a1 b1 (n : Int)) (ha2 : a2 = rdSA l a1 b1 (n : Int)) (hb2 : b2 = rdSB l a1 b1 (n : Int)) (hs : s = rdN l a2 b2 4) (ha3 : a3 = rdA l a2 b2 4) (hb3 : b3 = rdB l a2 b2 4) :
    (b3 = true → unfE l = 4) ∧ (b3 = false → x = sub l 4 (4 + unN l) ∧ a3 = unN l + 8 ∧ a3 ≤ l.length ∧ unfE l = if s = crc x then 0 else 6) := by
  by_cases h4 : 4 ≤ l.length
  · obtain ⟨e1, e2, e3⟩ := rd_yes (bs := l) (a := 0) (n := 4) (by omega)
    rw [e1] at hn; rw [e2] at ha1; rw [e3] at hb1
    subst hn ha1 hb1
    by_cases h5 : 4 + unN l ≤ l.length
    · obtain ⟨f1, f2, f3⟩ := rdS_yes (bs := l) (a := 4) (n := unN l) h5
      simp only [Nat.zero_add] at hx ha2 hb2
      rw [show leN (sub l 0 4) = unN l from rfl] at hx ha2 hb2
      rw [f1] at hx; rw [f2] at ha2; rw [f3] at hb2
      subst hx ha2 hb2
      by_cases h6 : 4 + unN l + 4 ≤ l.length
      · obtain ⟨g1, g2, g3⟩ := rd_yes (bs := l) (a := 4 + unN l) (n := 4) h6
        rw [g1] at hs; rw [g2] at ha3; rw [g3] at hb3
        subst hs ha3 hb3
        refine ⟨(fun hh => by cases hh), fun _ => ⟨rfl, by omega, h6, ?_⟩⟩
        unfold unfE
        rw [if_neg (by omega), if_neg (show ¬ 1073741824 < unN l from h), if_neg (by omega)]
        by_cases hc : leN (sub l (4 + unN l) (4 + unN l + 4)) = crc (sub l 4 (4 + unN l))
        · rw [if_neg (by simp [hc]), if_pos hc]
        · rw [if_pos hc, if_neg hc]
      · obtain ⟨g1, g2, g3⟩ := rd_no (bs := l) (a := 4 + unN l) (b := false) (n := 4) (by simp; omega)
        rw [g3] at hb3
        subst hb3
        refine ⟨fun _ => ?_, (fun hh => by cases hh)⟩
        unfold unfE
        rw [if_neg (by omega), if_neg (show ¬ 1073741824 < unN l from h), if_pos (by omega)]
    · obtain ⟨f1, f2, f3⟩ := rdS_no (bs := l) (a := 4) (b := false) (n := (unN l : Int)) (by simp; omega)
      simp only [Nat.zero_add] at hx ha2 hb2
      rw [show leN (sub l 0 4) = unN l from rfl] at hx ha2 hb2
      rw [f3] at hb2
      obtain ⟨g1, g2, g3⟩ := rd_no (bs := l) (a := a2) (b := b2) (n := 4) (by simp [hb2])
      rw [g3] at hb3
      subst hb3
      refine ⟨fun _ => ?_, (fun hh => by cases hh)⟩
      unfold unfE
      rw [if_neg (by omega), if_neg (show ¬ 1073741824 < unN l from h), if_pos (by omega)]
  · obtain ⟨e1, e2, e3⟩ := rd_no (bs := l) (a := 0) (b := false) (n := 4) (by simp; omega)
    rw [e3] at hb1
    obtain ⟨f1, f2, f3⟩ := rdS_no (bs := l) (a := a1) (b := b1) (n := (n : Int)) (by simp [hb1])
    rw [f3] at hb2
    obtain ⟨g1, g2, g3⟩ := rd_no (bs := l) (a := a2) (b := b2) (n := 4) (by simp [hb2])
    rw [g3] at hb3
    subst hb3
    refine ⟨fun _ => ?_, (fun hh => by cases hh)⟩
    unfold unfE
    rw [if_pos (by omega)]

theorem size_u8 (w : World) : (sizeOf (Try.prog.elem 76)).run Try.prog w = .ok 1 w := by
  obtain ⟨i, h1, h2, h3, h4⟩ := info_parts infoU8
  have := run_sizeOf (P := Try.prog) w h1
  have e : Try.prog.elem 76 = 5 := by kernel_rfl
  have e2 : Try.prog.cellsOf 5 = 1 := by kernel_rfl
  rw [e2] at this; rw [e]; exact this
/-- A piece up to the end: the slice's head. -/
theorem tail_rd (w : World) (ad : Option Addr) (cap n a : Nat) (zs : List Int) (hn : n = zs.length) (ha : a ≤ n) (hr : Rd w .u8 ad cap zs) :
    ∃ ad' cap', (∀ wx : World, (Instr.slice 76 (.slice ad n cap) (some (.int .i64 a)) none none).run Try.prog wx = .ok (.slice ad' (n - a) cap') wx) ∧ Rd w .u8 ad' cap' (sub zs a n) := by
  subst hn
  refine ⟨if cap = a then ad else ad.map (·.add a), cap - a, fun wx => ?_, ?_⟩
  · rw [run_slice_l (P := Try.prog) (w := wx) 76 ad zs.length cap (by kernel_rfl) .i64 (a : Int) (by omega) (by omega), size_u8]
    simp [Result.andThen, sliced]
  · by_cases hc : cap = a
    · rw [if_pos hc]
      have := hr.1
      rw [show cap - a = 0 by omega]
      exact Rd.slice_end (by omega)
    · rw [if_neg hc]
      exact hr.slice ha (Nat.le_refl _)
/-- A piece up to b. -/
theorem head_rd (w : World) (ad : Option Addr) (cap n b : Nat) (zs : List Int) (hn : n = zs.length) (hb : b ≤ n) (hr : Rd w .u8 ad cap zs) :
    ∃ ad' cap', (∀ wx : World, (Instr.slice 76 (.slice ad n cap) none (some (.int .i64 b)) none).run Try.prog wx = .ok (.slice ad' b cap') wx) ∧ Rd w .u8 ad' cap' (sub zs 0 b) := by
  subst hn
  have := hr.1
  refine ⟨if cap = 0 then ad else ad.map (·.add 0), cap - 0, fun wx => ?_, ?_⟩
  · rw [run_slice_h (P := Try.prog) (w := wx) 76 ad zs.length cap (by kernel_rfl) .i64 (b : Int) (by omega) (by omega), size_u8]
    simp [Result.andThen, sliced]
  · by_cases hc : cap = 0
    · rw [if_pos hc, hc]
      exact Rd.slice_end (by omega)
    · rw [if_neg hc]
      exact hr.slice (Nat.zero_le _) hb
/-- A piece from a up to b. -/
theorem mid_rd (w : World) (ad : Option Addr) (cap n a b : Nat) (zs : List Int) (hn : n = zs.length) (ha : a ≤ b) (hb : b ≤ n) (hr : Rd w .u8 ad cap zs) :
    ∃ ad' cap', (∀ wx : World, (Instr.slice 76 (.slice ad n cap) (some (.int .i64 a)) (some (.int .i64 b)) none).run Try.prog wx = .ok (.slice ad' (b - a) cap') wx) ∧ Rd w .u8 ad' cap' (sub zs a b) := by
  subst hn
  have := hr.1
  refine ⟨if cap = a then ad else ad.map (·.add a), cap - a, fun wx => ?_, ?_⟩
  · rw [run_slice_lh (P := Try.prog) (w := wx) 76 ad zs.length cap (by kernel_rfl) .i64 .i64 (a : Int) (b : Int) (by omega) (by omega) (by omega), size_u8]
    simp [Result.andThen, sliced]
  · by_cases hc : cap = a
    · rw [if_pos hc]
      rw [show cap - a = 0 by omega]
      exact Rd.slice_end (by omega)
    · rw [if_neg hc]
      exact hr.slice ha hb

end Go.Proofs.Ytfacpfogdcefpaa
