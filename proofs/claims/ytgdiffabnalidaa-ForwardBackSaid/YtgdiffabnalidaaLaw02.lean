/-
  What pack and isinglassref02 tell of whatever is asked; known of isinglasslaw02; PackReads and PackJoins.
-/
import Derived.Test.YtgdiffabnalidaaRef02B
import Derived.Test.YtgdiffabnalidaaStr
namespace Go.Proofs.Ytgdiffabnalidaa
open Go.RowKit
set_option linter.unusedSimpArgs false
set_option linter.unusedVariables false

instance (wd : Nat) (l : List Int) : Decidable (Fit wd l) := by unfold Fit; infer_instance
def packE (l : List Int) (wd : Int) : Int := if fitsP l.length wd ∧ Fit wd.toNat l then 0 else 2
def packL (l : List Int) (wd : Int) : List Int := if fitsP l.length wd ∧ Fit wd.toNat l then packs wd.toNat l else []
theorem packL_length (l : List Int) (wd : Int) (h : l.length ≤ 1000000) : (packL l wd).length ≤ 8000001 := by
  unfold packL
  split
  · rename_i hc
    rw [packs_length]
    have h1 := sizeN_lt l.length wd.toNat
    have h2 : l.length * wd.toNat ≤ 1000000 * 64 := Nat.mul_le_mul h (by have := hc.1.2.2.2; omega)
    omega
  · simp
theorem packL_bytes (l : List Int) (wd : Int) : Bytes8 (packL l wd) := by
  unfold packL
  split
  · exact packs_bytes _ _
  · intro z hz; simp at hz

theorem pack_all (a0 : Option Addr) (cap0 n : Nat) (wd : Int) (l : List Int) (hn : n = l.length) (w : World) (r0 : Rd w .u64 a0 cap0 l) (hu : U64s l) (hnb : n ≤ 1000000) :
    Calls Try.prog 12 #[.slice a0 n cap0, .int .i64 wd] w fun e w' => ∃ ad cap, e = .returned (.tuple #[.slice ad (packL l wd).length cap, .int .i64 (packE l wd)]) ∧ Own w' w.heap.size 5 .u8 ad cap (packL l wd) ∧ Kp [] w w' := by
  by_cases hf : fitsP n wd
  · obtain ⟨wd, rfl⟩ := Int.eq_ofNat_of_zero_le (show 0 ≤ wd by have := hf.2.2.1; omega)
    refine (pack_any a0 cap0 n wd l hn w r0 hu hf hnb).mono ?_
    rintro e w' ⟨kp, ⟨hfit, ad, cap, rfl, ho⟩ | ⟨hfit, rfl⟩⟩
    · have hc : fitsP l.length (wd : Int) ∧ Fit (wd : Int).toNat l := ⟨by rw [← hn]; exact hf, by simpa using hfit⟩
      refine ⟨ad, cap, ?_, ?_, kp⟩
      · unfold packL packE; rw [if_pos hc, if_pos hc, packs_length, Int.toNat_natCast, hn]
      · unfold packL; rw [if_pos hc, Int.toNat_natCast]; exact ho
    · have hc : ¬ (fitsP l.length (wd : Int) ∧ Fit (wd : Int).toNat l) := fun h => hfit (by simpa using h.2)
      refine ⟨none, 0, ?_, ?_, kp⟩
      · unfold packL packE; rw [if_neg hc, if_neg hc]; rfl
      · unfold packL; rw [if_neg hc]; exact Own.nil _ _ _ _
  · refine (pack_bad a0 cap0 n wd w hf).mono ?_
    rintro e w' ⟨rfl, rfl⟩
    have hc : ¬ (fitsP l.length wd ∧ Fit wd.toNat l) := fun h => hf (by rw [hn]; exact h.1)
    refine ⟨none, 0, ?_, ?_, Kp.refl _ _⟩
    · unfold packL packE; rw [if_neg hc, if_neg hc]; rfl
    · unfold packL; rw [if_neg hc]; exact Own.nil _ _ _ _
theorem r02pack_all (a0 : Option Addr) (cap0 n : Nat) (wd : Int) (l : List Int) (hn : n = l.length) (w : World) (r0 : Rd w .u64 a0 cap0 l) (hu : U64s l) (hnb : n ≤ 1000000) :
    Calls Try.prog 13 #[.slice a0 n cap0, .int .i64 wd] w fun e w' => ∃ ad cap, e = .returned (.tuple #[.slice ad (packL l wd).length cap, .int .i64 (packE l wd)]) ∧ Own w' w.heap.size 5 .u8 ad cap (packL l wd) ∧ Kp [] w w' := by
  by_cases hf : fitsP n wd
  · obtain ⟨wd, rfl⟩ := Int.eq_ofNat_of_zero_le (show 0 ≤ wd by have := hf.2.2.1; omega)
    refine (r02pack_any a0 cap0 n wd l hn w r0 hu hf hnb).mono ?_
    rintro e w' ⟨kp, ⟨hfit, ad, cap, rfl, ho⟩ | ⟨hfit, rfl⟩⟩
    · have hc : fitsP l.length (wd : Int) ∧ Fit (wd : Int).toNat l := ⟨by rw [← hn]; exact hf, by simpa using hfit⟩
      refine ⟨ad, cap, ?_, ?_, kp⟩
      · unfold packL packE; rw [if_pos hc, if_pos hc, packs_length, Int.toNat_natCast, hn]
      · unfold packL; rw [if_pos hc, Int.toNat_natCast]; exact ho
    · have hc : ¬ (fitsP l.length (wd : Int) ∧ Fit (wd : Int).toNat l) := fun h => hfit (by simpa using h.2)
      refine ⟨none, 0, ?_, ?_, kp⟩
      · unfold packL packE; rw [if_neg hc, if_neg hc]; rfl
      · unfold packL; rw [if_neg hc]; exact Own.nil _ _ _ _
  · have hf2 : ¬ (1 ≤ wd ∧ wd ≤ 64) := fun h => hf ⟨by omega, by omega, h.1, h.2⟩
    refine (r02pack_bad a0 cap0 n wd w hf2).mono ?_
    rintro e w' ⟨rfl, rfl⟩
    have hc : ¬ (fitsP l.length wd ∧ Fit wd.toNat l) := fun h => hf (by rw [hn]; exact h.1)
    refine ⟨none, 0, ?_, ?_, Kp.refl _ _⟩
    · unfold packL packE; rw [if_neg hc, if_neg hc]; rfl
    · unfold packL; rw [if_neg hc]; exact Own.nil _ _ _ _

/-- What is told of bytes, one number. -/
def getV (bs : List Int) (i wd : Int) : Nat := if fitsP i wd then gets (leN bs) i.toNat wd.toNat else 0
theorem pget_all (a0 : Option Addr) (cap0 l : Nat) (bs : List Int) (hl : l = bs.length) (i wd : Int) (w : World) (r0 : Rd w .u8 a0 cap0 bs) (hb : Bytes8 bs) :
    Calls Try.prog 21 #[.slice a0 l cap0, .int .i64 i, .int .i64 wd] w fun e w' => e = .returned (.int .u64 (getV bs i wd : Int)) ∧ w = w' := by
  unfold getV
  by_cases hf : fitsP i wd
  · rw [if_pos hf]
    obtain ⟨i, rfl⟩ := Int.eq_ofNat_of_zero_le hf.1
    obtain ⟨wd, rfl⟩ := Int.eq_ofNat_of_zero_le (show 0 ≤ wd by have := hf.2.2.1; omega)
    exact pget_any a0 cap0 l bs hl i wd w r0 hb hf
  · rw [if_neg hf]; exact pget_no a0 cap0 l i wd w hf
theorem r02get_all (a0 : Option Addr) (cap0 l : Nat) (bs : List Int) (hl : l = bs.length) (i wd : Int) (w : World) (r0 : Rd w .u8 a0 cap0 bs) (hb : Bytes8 bs) :
    Calls Try.prog 22 #[.slice a0 l cap0, .int .i64 i, .int .i64 wd] w fun e w' => e = .returned (.int .u64 (getV bs i wd : Int)) ∧ w = w' := by
  unfold getV
  by_cases hf : fitsP i wd
  · rw [if_pos hf]
    obtain ⟨i, rfl⟩ := Int.eq_ofNat_of_zero_le hf.1
    obtain ⟨wd, rfl⟩ := Int.eq_ofNat_of_zero_le (show 0 ≤ wd by have := hf.2.2.1; omega)
    exact r02get_any a0 cap0 l bs hl i wd w r0 hb hf
  · rw [if_neg hf]; exact r02get_no a0 cap0 l i wd w hf
def sizeV (n wd : Int) : Nat := if fitsP n wd then sizeN n.toNat wd.toNat else 0
theorem psize_all (n wd : Int) (w : World) : Calls Try.prog 15 #[.int .i64 n, .int .i64 wd] w fun e w' => e = .returned (.int .i64 (sizeV n wd : Int)) ∧ w = w' := by
  unfold sizeV
  by_cases hf : fitsP n wd
  · rw [if_pos hf]
    obtain ⟨n, rfl⟩ := Int.eq_ofNat_of_zero_le hf.1
    obtain ⟨wd, rfl⟩ := Int.eq_ofNat_of_zero_le (show 0 ≤ wd by have := hf.2.2.1; omega)
    exact size_yes n wd w hf
  · rw [if_neg hf]; exact size_no n wd w hf
theorem r02size_all (n wd : Int) (w : World) : Calls Try.prog 16 #[.int .i64 n, .int .i64 wd] w fun e w' => e = .returned (.int .i64 (sizeV n wd : Int)) ∧ w = w' := by
  unfold sizeV
  by_cases hf : fitsP n wd
  · rw [if_pos hf]
    obtain ⟨n, rfl⟩ := Int.eq_ofNat_of_zero_le hf.1
    obtain ⟨wd, rfl⟩ := Int.eq_ofNat_of_zero_le (show 0 ≤ wd by have := hf.2.2.1; omega)
    exact r02size_yes n wd w hf
  · rw [if_neg hf]; exact r02size_no n wd w hf

theorem unp_v (bs : List Int) (n wd : Int) (hb : Bytes8 bs) (hl : bs.length ≤ 1000000) :
    ∃ (ec : Int) (lu : List Int), lu.length ≤ 8000000 ∧ (∀ (a0 : Option Addr) (cap0 l : Nat) (w : World), l = bs.length → Rd w .u8 a0 cap0 bs → Calls Try.prog 19 #[.slice a0 l cap0, .int .i64 n, .int .i64 wd] w fun e w' =>
        ∃ ad cap, e = .returned (.tuple #[.slice ad lu.length cap, .int .i64 ec]) ∧ Own w' w.heap.size 31 .u64 ad cap lu ∧ Kp [] w w') ∧
      (∀ (a0 : Option Addr) (cap0 l : Nat) (w : World), l = bs.length → Rd w .u8 a0 cap0 bs → Calls Try.prog 20 #[.slice a0 l cap0, .int .i64 n, .int .i64 wd] w fun e w' =>
        ∃ ad cap, e = .returned (.tuple #[.slice ad lu.length cap, .int .i64 ec]) ∧ Own w' w.heap.size 31 .u64 ad cap lu ∧ Kp [] w w') := by
  refine ⟨unpE bs n wd, unpL bs n wd, ?_, fun a0 cap0 l w h r => unpack_any a0 cap0 l bs h n wd w r hb (by omega), fun a0 cap0 l w h r => r02unpack_any a0 cap0 l bs h n wd w r hb (by omega)⟩
  unfold unpL
  split
  · rename_i he
    rw [unp_length]
    unfold unpE at he
    split at he
    · omega
    · rename_i hf
      have hf : fitsP n wd := by simpa using hf
      split at he
      · omega
      · split at he
        · omega
        · rename_i h1 h2
          have h3 := sizeN_ge n.toNat wd.toNat
          have h4 : n.toNat ≤ n.toNat * wd.toNat := Nat.le_mul_of_pos_right _ (by have := hf.2.2.1; omega)
          have h5 : ¬ sizeN n.toNat wd.toNat < bs.length := fun h => h2 (.inl h)
          omega
  · simp

set_option maxHeartbeats 1000000 in
theorem known02 (w : World) : Calls Try.prog 11 #[] w fun e w' => e = .returned (.bool true) ∧ Kp [] w w' := by
  have u3 : U64s [1, 2, 3] := by intro z hz; simp at hz; omega
  have b1 : Bytes8 [255] := by intro z hz; simp at hz; omega
  have hp := fun wx h => pack_all (some ⟨w.heap.size, 0, none⟩) 3 3 3 [1, 2, 3] rfl wx h u3 (by omega)
  rw [show packL [1, 2, 3] 3 = [209, 0] from by decide +kernel, show packE [1, 2, 3] 3 = 0 from by decide +kernel] at hp
  have HP := Lib.hid hp
  have hu := fun a0 wx h => unpack_any a0 1 1 [255] rfl 2 3 wx h b1 (by omega)
  have HU := Lib.hid hu
  clear u3 b1 hp hu
  go_enter Try.func11, Try.ntmps11
  go_wp2_with fail
  refine (HP.out _ ((Own.row (k := .u64) (zs := [1, 2, 3]) (base := 0) (e := 31) (Nat.zero_le _) (heap_alloc_at rfl) (by simp)).rd)).mono ?_
  rintro e w1 ⟨ad1, cap1, rfl, ho1, kp1⟩
  have kw1 : Kp [] w w1 := ((Kp.refl [] w).alloc _).tr kp1
  have HO1 := Lib.hid ho1
  clear ho1 kp1
  go_wp2_with fail
  refine (HU.out _ _ ((Own.row (k := .u8) (zs := [255]) (base := 0) (e := 5) (Nat.zero_le _) (heap_alloc_at rfl) (by simp)).rd)).mono ?_
  rintro e w2 ⟨ad2, cap2, rfl, ho2, kp2⟩
  rw [show unpE [255] 2 3 = 5 from by decide +kernel]
  have k12 : Kp [] w1 w2 := ((Kp.refl [] w1).alloc _).tr kp2
  have HO12 := Lib.hid (HO1.out.keep0 k12)
  have kw2 := kw1.tr k12
  have hcv := conv_str (P := Try.prog) w2 24 9 5 Try.underlying24 Try.underlying5 Try.underlying9 ad1 cap1 2 [209, 0] HO12.out.rd rfl
  rw [show strOfNums [209, 0] = ⟨#[209, 0]⟩ from by decide +kernel] at hcv
  clear ho2 kp2 kw1 k12
  go_wp2_with fail
  clear hcv
  refine (pwidth_any 0 w2 (by omega)).mono ?_
  rw [show widthN 0 = 1 from by decide +kernel]
  rintro e w' ⟨rfl, rfl⟩
  go_wp2_with fail
  refine (pwidth_any 256 w2 (by omega)).mono ?_
  rw [show widthN 256 = 9 from by decide +kernel]
  rintro e w' ⟨rfl, rfl⟩
  go_wp2_with fail
  refine (pget_all ad1 cap1 2 [209, 0] rfl 2 3 w2 HO12.out.rd (by intro z hz; simp at hz; omega)).mono ?_
  rw [show getV [209, 0] 2 3 = 3 from by decide +kernel]
  rintro e w' ⟨rfl, rfl⟩
  go_wp2_with fail
  go_ret
  exact ⟨rfl, kw2⟩

set_option maxRecDepth 100000 in
set_option maxHeartbeats 1000000 in
theorem reads02_walk (a0 : Option Addr) (cap0 : Nat) (bs : List Int) (n i wd : Int) (w : World) (r0 : Rd w .u8 a0 cap0 bs) (hb8 : Bytes8 bs) :
    Calls Try.prog 4 #[.slice a0 bs.length cap0, .int .i64 n, .int .i64 i, .int .i64 wd] w fun e w' => e = .returned (.bool true) ∧ Kp [] w w' := by
  obtain ⟨l, hl⟩ : ∃ l, l = bs.length := ⟨_, rfl⟩
  rw [← hl]
  have HL := Lib.hid hl
  have HR := Lib.hid r0
  have HB := Lib.hid hb8
  clear r0 hb8
  by_cases h1 : 1000 < l
  · clear hl
    go_enter Try.func4, Try.ntmps4
    go_wp2_with (go_at_call 11; refine (known02 _).mono ?_; rintro e w' ⟨rfl, kp⟩)
    go_ret
    exact ⟨rfl, kp⟩
  obtain ⟨ec, lu, hlu, hu1, hu2⟩ := unp_v bs n wd HB.out (by omega)
  obtain ⟨nu, hnu⟩ : ∃ nu, nu = lu.length := ⟨_, rfl⟩
  rw [← hnu] at hlu
  simp only [← hnu] at hu1 hu2
  have HU1 := Lib.hid hu1
  have HU2 := Lib.hid hu2
  have HNU := Lib.hid hnu
  clear hl hu1 hu2 hnu
  go_enter Try.func4, Try.ntmps4
  go_wp2_with (at_builtin; refine wpList_app rfl (.tmp 18) (.tmp 19) 24 24 rfl w.heap.size 5 .u8 1 Try.underlying24 infoU8 (some ⟨w.heap.size, 0, none⟩) 0 0 [] rfl bs _ l HL.out rfl rfl (.inl ⟨rfl, rfl⟩) (by rw [HL.out]; exact src_rd (HR.out.alloc _) Try.underlying24) (by omega) (by omega) (by simp) ?_; intro ad1 cap1 w1 ho1 kp1 hob1 _)
  have kw1 : Kp [] w w1 := ((Kp.refl [] w).alloc _).trans kp1 (by simp) (by simp [ob])
  rw [List.nil_append] at ho1
  have HO1 := Lib.hid ho1
  clear ho1 kp1 hob1
  refine (HU1.out ad1 cap1 l w1 HL.out HO1.out.rd).mono ?_
  rintro e w2 ⟨ad2, cap2, rfl, ho2, kp2⟩
  have HO2 := Lib.hid ho2
  have kw2 := kw1.tr kp2
  clear ho2
  go_wp2_with fail
  refine (HU2.out a0 cap0 l w2 HL.out (HR.out.keep0 kw2)).mono ?_
  rintro e w3 ⟨ad3, cap3, rfl, ho3, kp3⟩
  have HO3 := Lib.hid ho3
  have HO23 := Lib.hid (HO2.out.keep0 kp3)
  have kw3 := kw2.tr kp3
  have HO13 := Lib.hid ((HO1.out.keep0 kp2).keep0 kp3)
  clear ho3 kp2 kp3
  go_wp2_with fail
  refine (r02same_yes ad2 ad3 cap2 cap3 lu nu HNU.out w3 HO23.out.rd HO3.out.rd).mono ?_
  rintro e w4 ⟨rfl, kp4⟩
  have kw4 := kw3.tr kp4
  have HO14 := Lib.hid (HO13.out.keep0 kp4)
  have HR4 := Lib.hid (HR.out.keep0 kw4)
  have hcv1 := conv_str (P := Try.prog) w4 24 9 5 Try.underlying24 Try.underlying5 Try.underlying9 ad1 cap1 l bs HO14.out.rd HL.out
  have hcv0 := conv_str (P := Try.prog) w4 24 9 5 Try.underlying24 Try.underlying5 Try.underlying9 a0 cap0 l bs HR4.out HL.out
  clear kp4
  go_wp2_with (first
    | (go_at_call 21; refine (pget_all ad1 cap1 l bs HL.out i wd _ HO14.out.rd HB.out).mono ?_; rintro e w' ⟨rfl, rfl⟩)
    | (go_at_call 22; refine (r02get_all a0 cap0 l bs HL.out i wd _ HR4.out HB.out).mono ?_; rintro e w' ⟨rfl, rfl⟩)
    | (go_at_call 11; refine (known02 _).mono ?_; rintro e w5 ⟨rfl, kp5⟩))
  go_ret
  exact ⟨rfl, kw4.tr kp5⟩

theorem le_append (s : Nat) : ∀ (x y t : Nat), x < 256 ^ s → le (x + 256 ^ s * y) (s + t) = le x s ++ le y t := by
  induction s with
  | zero => intro x y t hx; simp at hx; subst hx; simp [le]
  | succ s ih =>
    intro x y t hx
    rw [Nat.pow_succ] at hx
    have e1 : x + 256 ^ (s + 1) * y = x + 256 * (256 ^ s * y) := by rw [Nat.pow_succ, Nat.mul_comm (256 ^ s) 256, Nat.mul_assoc]
    rw [e1, show s + 1 + t = (s + t) + 1 by omega]
    simp only [le, List.cons_append]
    rw [show (x + 256 * (256 ^ s * y)) % 256 = x % 256 by omega, show (x + 256 * (256 ^ s * y)) / 256 = x / 256 + 256 ^ s * y by omega, ih (x / 256) y t (by omega)]
theorem packs_append (wd : Nat) (l m : List Int) (hl : l.length % 8 = 0) (hf : Fit wd l) : packs wd (l ++ m) = packs wd l ++ packs wd m := by
  have h8 : 8 * sizeN l.length wd = l.length * wd := by
    obtain ⟨c, hc⟩ : ∃ c, l.length = 8 * c := ⟨l.length / 8, by omega⟩
    unfold sizeN; rw [hc, Nat.mul_assoc]; omega
  have hsz : sizeN (l ++ m).length wd = sizeN l.length wd + sizeN m.length wd := by
    have : (l ++ m).length * wd = 8 * sizeN l.length wd + m.length * wd := by rw [h8, List.length_append, Nat.add_mul]
    unfold sizeN at this ⊢; rw [this]; omega
  unfold packs
  rw [hsz, vn_append, ← h8, ← p256]
  exact le_append _ _ _ _ (by rw [p256, h8]; exact vn_lt wd l hf)
theorem fit_append (wd : Nat) (l m : List Int) : Fit wd (l ++ m) ↔ Fit wd l ∧ Fit wd m :=
  ⟨fun h => ⟨fun x hx => h x (List.mem_append_left _ hx), fun x hx => h x (List.mem_append_right _ hx)⟩, fun h x hx => (List.mem_append.1 hx).elim (h.1 x) (h.2 x)⟩
theorem joins_law (l m : List Int) (wd : Int) (hl : l.length ≤ 200) (hm : m.length ≤ 200) (h8 : l.length % 8 = 0) :
    (packE l wd = 0 ∧ packE m wd = 0 ∧ packE (l ++ m) wd = 0 ∧ packL (l ++ m) wd = packL l wd ++ packL m wd) ∨ ((packE l wd = 2 ∨ (packE l wd = 0 ∧ packE m wd = 2)) ∧ packE (l ++ m) wd = 2) := by
  have hc1 : fitsP l.length wd ↔ (1 ≤ wd ∧ wd ≤ 64) := ⟨fun h => h.2.2, fun h => ⟨by omega, by omega, h⟩⟩
  have hc2 : fitsP m.length wd ↔ (1 ≤ wd ∧ wd ≤ 64) := ⟨fun h => h.2.2, fun h => ⟨by omega, by omega, h⟩⟩
  have hc3 : fitsP (l ++ m).length wd ↔ (1 ≤ wd ∧ wd ≤ 64) := ⟨fun h => h.2.2, fun h => ⟨by omega, by rw [List.length_append]; omega, h⟩⟩
  unfold packE packL
  by_cases hw : 1 ≤ wd ∧ wd ≤ 64
  · by_cases f1 : Fit wd.toNat l
    · by_cases f2 : Fit wd.toNat m
      · have g1 := (⟨hc1.2 hw, f1⟩ : fitsP l.length wd ∧ Fit wd.toNat l)
        have g2 := (⟨hc2.2 hw, f2⟩ : fitsP m.length wd ∧ Fit wd.toNat m)
        have g3 := (⟨hc3.2 hw, (fit_append _ _ _).2 ⟨f1, f2⟩⟩ : fitsP (l ++ m).length wd ∧ Fit wd.toNat (l ++ m))
        rw [if_pos g1, if_pos g2, if_pos g3, if_pos g1, if_pos g2, if_pos g3]
        exact .inl ⟨rfl, rfl, rfl, packs_append _ _ _ h8 f1⟩
      · have g1 := (⟨hc1.2 hw, f1⟩ : fitsP l.length wd ∧ Fit wd.toNat l)
        rw [if_pos g1, if_neg (fun h => f2 h.2), if_neg (fun h => f2 ((fit_append _ _ _).1 h.2).2)]
        exact .inr ⟨.inr ⟨rfl, rfl⟩, rfl⟩
    · rw [if_neg (fun h => f1 h.2), if_neg (fun h : fitsP (l ++ m).length wd ∧ Fit wd.toNat (l ++ m) => f1 ((fit_append _ _ _).1 h.2).1)]
      exact .inr ⟨.inl rfl, rfl⟩
  · rw [if_neg (fun h : fitsP l.length wd ∧ Fit wd.toNat l => hw (hc1.1 h.1)), if_neg (fun h : fitsP (l ++ m).length wd ∧ Fit wd.toNat (l ++ m) => hw (hc3.1 h.1))]
    exact .inr ⟨.inl rfl, rfl⟩
end Go.Proofs.Ytgdiffabnalidaa
