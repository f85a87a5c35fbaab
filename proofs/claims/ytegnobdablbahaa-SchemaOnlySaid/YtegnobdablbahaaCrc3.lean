/-
  What is framed, read again: plain laws; package crc's Unframe.
-/
import Derived.Test.YtegnobdablbahaaCrc2
import Derived.ChangeKeysEq
namespace Go.Proofs.Ytegnobdablbahaa
open Go.RowKit
set_option linter.unusedSimpArgs false
set_option linter.unusedVariables false

/-- The length that bytes begin with. -/
def unN (l : List Int) : Nat := leN (sub l 0 4)
/-- What is wrong with a frame. -/
def unfE (l : List Int) : Int :=
  if l.length < 4 then 4 else if 1073741824 < unN l then 3 else if l.length < unN l + 8 then 4 else if leN (sub l (4 + unN l) (4 + unN l + 4)) ≠ crc (sub l 4 (4 + unN l)) then 6 else 0
def unL (zs : List Int) (a : Int) : List Int := sub zs a.toNat zs.length
def unErr (zs : List Int) (a : Int) : Int := if 0 ≤ a ∧ a ≤ zs.length then unfE (unL zs a) else 2
def unX (zs : List Int) (a : Int) : List Int := if unErr zs a = 0 then sub (unL zs a) 4 (4 + unN (unL zs a)) else []
def unNext (zs : List Int) (a : Int) : Int := if unErr zs a = 0 then a + (unN (unL zs a) + 8 : Nat) else 0

theorem unL_length (zs : List Int) (a : Nat) (h : a ≤ zs.length) : (unL zs a).length = zs.length - a := by
  rw [unL, sub_length _ _ _ (Nat.le_refl _)]; simp
theorem unX_bytes {zs : List Int} (h : Bytes8 zs) (a : Int) : Bytes8 (unX zs a) := by
  unfold unX
  split
  · exact (h.sub _ _).sub _ _
  · intro z hz; simp at hz
theorem unX_length (zs : List Int) (a : Int) : (unX zs a).length ≤ zs.length := by
  unfold unX
  split
  · have h1 : (sub (unL zs a) 4 (4 + unN (unL zs a))).length ≤ (unL zs a).length := by simp [sub]; omega
    have h2 : (unL zs a).length ≤ zs.length := by simp [unL, sub]
    omega
  · simp

/-- The reader's steps, by what they come to. -/
theorem un_long {l : List Int} (hb : Bytes8 l) (h : 1073741824 < rdN l 0 false 4) : unfE l = 3 := by
  by_cases h4 : 4 ≤ l.length
  · obtain ⟨e1, -, -⟩ := rd_yes (bs := l) (a := 0) (n := 4) (by omega)
    rw [e1] at h
    unfold unfE
    rw [if_neg (by omega), if_pos (show 1073741824 < unN l from h)]
  · obtain ⟨e1, -, -⟩ := rd_no (bs := l) (a := 0) (b := false) (n := 4) (by simp; omega)
    rw [e1] at h; omega
/-- All that follows where the length is not too long. -/
theorem un_rest {l : List Int} (hb : Bytes8 l) {n a1 a2 a3 s : Nat} {b1 b2 b3 : Bool} {x : List Int} (hn : n = rdN l 0 false 4) (ha1 : a1 = rdA l 0 false 4) (hb1 : b1 = rdB l 0 false 4) (h : ¬ 1073741824 < n)
    (hx : x = rdS l a1 b1 (n : Int)) (ha2 : a2 = rdSA l a1 b1 (n : Int)) (hb2 : b2 = rdSB l a1 b1 (n : Int)) (hs : s = rdN l a2 b2 4) (ha3 : a3 = rdA l a2 b2 4) (hb3 : b3 = rdB l a2 b2 4) :
    (b3 = true → unfE l = 4) ∧ (b3 = false → x = sub l 4 (4 + unN l) ∧ a3 = unN l + 8 ∧ a3 ≤ l.length ∧ unfE l = if s = crc x then 0 else 6) := by
  by_cases h4 : 4 ≤ l.length
  · obtain ⟨e1, e2, e3⟩ := rd_yes (bs := l) (a := 0) (n := 4) (by omega)
    rw [e1] at hn; rw [e2] at ha1; rw [e3] at hb1
    subst hn ha1 hb1
    by_cases h5 : 4 + unN l ≤ l.length
    · obtain ⟨f1, f2, f3⟩ := rdS_yes (bs := l) (a := 4) (n := unN l) h5
      simp only [Nat.zero_add] at hx ha2 hb2
      rw [show leN (sub l 0 4) = unN l from rfl] at hx ha2 hb2
      rw [f1] at hx; rw [f2] at ha2; rw [f3] at hb2
      subst hx ha2 hb2
      by_cases h6 : 4 + unN l + 4 ≤ l.length
      · obtain ⟨g1, g2, g3⟩ := rd_yes (bs := l) (a := 4 + unN l) (n := 4) h6
        rw [g1] at hs; rw [g2] at ha3; rw [g3] at hb3
        subst hs ha3 hb3
        refine ⟨(fun hh => by cases hh), fun _ => ⟨rfl, by omega, h6, ?_⟩⟩
        unfold unfE
        rw [if_neg (by omega), if_neg (show ¬ 1073741824 < unN l from h), if_neg (by omega)]
        by_cases hc : leN (sub l (4 + unN l) (4 + unN l + 4)) = crc (sub l 4 (4 + unN l))
        · rw [if_neg (by simp [hc]), if_pos hc]
        · rw [if_pos hc, if_neg hc]
      · obtain ⟨g1, g2, g3⟩ := rd_no (bs := l) (a := 4 + unN l) (b := false) (n := 4) (by simp; omega)
        rw [g3] at hb3
        subst hb3
        refine ⟨fun _ => ?_, (fun hh => by cases hh)⟩
        unfold unfE
        rw [if_neg (by omega), if_neg (show ¬ 1073741824 < unN l from h), if_pos (by omega)]
    · obtain ⟨f1, f2, f3⟩ := rdS_no (bs := l) (a := 4) (b := false) (n := (unN l : Int)) (by simp; omega)
      simp only [Nat.zero_add] at hx ha2 hb2
      rw [show leN (sub l 0 4) = unN l from rfl] at hx ha2 hb2
      rw [f3] at hb2
      obtain ⟨g1, g2, g3⟩ := rd_no (bs := l) (a := a2) (b := b2) (n := 4) (by simp [hb2])
      rw [g3] at hb3
      subst hb3
      refine ⟨fun _ => ?_, (fun hh => by cases hh)⟩
      unfold unfE
      rw [if_neg (by omega), if_neg (show ¬ 1073741824 < unN l from h), if_pos (by omega)]
  · obtain ⟨e1, e2, e3⟩ := rd_no (bs := l) (a := 0) (b := false) (n := 4) (by simp; omega)
    rw [e3] at hb1
    obtain ⟨f1, f2, f3⟩ := rdS_no (bs := l) (a := a1) (b := b1) (n := (n : Int)) (by simp [hb1])
    rw [f3] at hb2
    obtain ⟨g1, g2, g3⟩ := rd_no (bs := l) (a := a2) (b := b2) (n := 4) (by simp [hb2])
    rw [g3] at hb3
    subst hb3
    refine ⟨fun _ => ?_, (fun hh => by cases hh)⟩
    unfold unfE
    rw [if_pos (by omega)]

theorem size_u8 (w : World) : (sizeOf (Try.prog.elem 39)).run Try.prog w = .ok 1 w := by
  obtain ⟨i, h1, h2, h3, h4⟩ := info_parts infoU8
  have := run_sizeOf (P := Try.prog) w h1
  have e : Try.prog.elem 39 = 5 := by kernel_rfl
  have e2 : Try.prog.cellsOf 5 = 1 := by kernel_rfl
  rw [e2] at this; rw [e]; exact this
/-- A piece up to the end: the slice's head. -/
theorem tail_rd (w : World) (ad : Option Addr) (cap n a : Nat) (zs : List Int) (hn : n = zs.length) (ha : a ≤ n) (hr : Rd w .u8 ad cap zs) :
    ∃ ad' cap', (∀ wx : World, (Instr.slice 39 (.slice ad n cap) (some (.int .i64 a)) none none).run Try.prog wx = .ok (.slice ad' (n - a) cap') wx) ∧ Rd w .u8 ad' cap' (sub zs a n) := by
  subst hn
  refine ⟨if cap = a then ad else ad.map (·.add a), cap - a, fun wx => ?_, ?_⟩
  · rw [run_slice_l (P := Try.prog) (w := wx) 39 ad zs.length cap (by kernel_rfl) .i64 (a : Int) (by omega) (by omega), size_u8]
    simp [Result.andThen, sliced]
  · by_cases hc : cap = a
    · rw [if_pos hc]
      have := hr.1
      rw [show cap - a = 0 by omega]
      exact Rd.slice_end (by omega)
    · rw [if_neg hc]
      exact hr.slice ha (Nat.le_refl _)
/-- A piece up to b. -/
theorem head_rd (w : World) (ad : Option Addr) (cap n b : Nat) (zs : List Int) (hn : n = zs.length) (hb : b ≤ n) (hr : Rd w .u8 ad cap zs) :
    ∃ ad' cap', (∀ wx : World, (Instr.slice 39 (.slice ad n cap) none (some (.int .i64 b)) none).run Try.prog wx = .ok (.slice ad' b cap') wx) ∧ Rd w .u8 ad' cap' (sub zs 0 b) := by
  subst hn
  have := hr.1
  refine ⟨if cap = 0 then ad else ad.map (·.add 0), cap - 0, fun wx => ?_, ?_⟩
  · rw [run_slice_h (P := Try.prog) (w := wx) 39 ad zs.length cap (by kernel_rfl) .i64 (b : Int) (by omega) (by omega), size_u8]
    simp [Result.andThen, sliced]
  · by_cases hc : cap = 0
    · rw [if_pos hc, hc]
      exact Rd.slice_end (by omega)
    · rw [if_neg hc]
      exact hr.slice (Nat.zero_le _) hb
/-- A piece from a up to b. -/
theorem mid_rd (w : World) (ad : Option Addr) (cap n a b : Nat) (zs : List Int) (hn : n = zs.length) (ha : a ≤ b) (hb : b ≤ n) (hr : Rd w .u8 ad cap zs) :
    ∃ ad' cap', (∀ wx : World, (Instr.slice 39 (.slice ad n cap) (some (.int .i64 a)) (some (.int .i64 b)) none).run Try.prog wx = .ok (.slice ad' (b - a) cap') wx) ∧ Rd w .u8 ad' cap' (sub zs a b) := by
  subst hn
  have := hr.1
  refine ⟨if cap = a then ad else ad.map (·.add a), cap - a, fun wx => ?_, ?_⟩
  · rw [run_slice_lh (P := Try.prog) (w := wx) 39 ad zs.length cap (by kernel_rfl) .i64 .i64 (a : Int) (b : Int) (by omega) (by omega) (by omega), size_u8]
    simp [Result.andThen, sliced]
  · by_cases hc : cap = a
    · rw [if_pos hc]
      rw [show cap - a = 0 by omega]
      exact Rd.slice_end (by omega)
    · rw [if_neg hc]
      exact hr.slice ha hb

set_option maxHeartbeats 800000 in
theorem kUnframe_any (ad : Option Addr) (cap n : Nat) (at' : Int) (zs : List Int) (hn : n = zs.length) (w : World) (hr : Rd w .u8 ad cap zs) (hb : Bytes8 zs) (hl : n ≤ 1000000000) :
    Calls Try.prog 62 #[.slice ad n cap, .int .i64 at'] w fun e w' => ∃ ad' cap', e = .returned (.tuple #[.slice ad' (unX zs at').length cap', .int .i64 (unNext zs at'), .int .i64 (unErr zs at')]) ∧ Own w' w.heap.size 5 .u8 ad' cap' (unX zs at') ∧ Kp [] w w' := by
  have HR := Lib.hid hr
  have HN := Lib.hid hn
  clear hr hn
  by_cases h1 : at' < 0
  · have he : unErr zs at' = 2 := by unfold unErr; rw [if_neg (by omega)]
    rw [unX, unNext, he]
    go_enter Try.func62, Try.ntmps62
    go_wp2_with fail
    go_ret3
    exact ⟨none, 0, rfl, Own.nil _ _ _ _, Kp.refl _ _⟩
  · by_cases h2 : (n : Int) < at'
    · have he : unErr zs at' = 2 := by unfold unErr; rw [if_neg (by have := HN.out; omega)]
      rw [unX, unNext, he]
      go_enter Try.func62, Try.ntmps62
      go_wp2_with fail
      go_ret3
      exact ⟨none, 0, rfl, Own.nil _ _ _ _, Kp.refl _ _⟩
    · obtain ⟨a, rfl⟩ := Int.eq_ofNat_of_zero_le (show 0 ≤ at' by omega)
      obtain ⟨ad1, cap1, hsl, hr1⟩ := tail_rd w ad cap n a zs HN.out (by omega) HR.out
      rw [show sub zs a n = unL zs a by rw [unL, ← HN.out]; rfl] at hr1
      have hll := unL_length zs a (by have := HN.out; omega)
      have he : unErr zs a = unfE (unL zs a) := by unfold unErr; rw [if_pos (by have := HN.out; omega)]
      obtain ⟨l, hl'⟩ : ∃ l, l = unL zs a := ⟨_, rfl⟩
      rw [← hl'] at hll he hr1
      rw [← HN.out] at hll
      have hbl : Bytes8 l := by rw [hl']; exact hb.sub _ _
      have HL := Lib.hid hl'
      have HE := Lib.hid he
      have HR1 := Lib.hid hr1
      have HLL := Lib.hid hll
      clear hl' he hr1 hll
      go_enter Try.func62, Try.ntmps62
      go_wp2_with fail
      refine (cnew_any ad1 cap1 (n - a) l HLL.out.symm _ HR1.out (by omega)).mono ?_
      rintro e w1 ⟨p, rfl, hp, hd1, kp1⟩
      have HD1 := Lib.hid hd1
      have HK1 := Lib.hid kp1
      clear hd1 kp1
      go_wp2_with fail
      refine (cu32_any p l 0 false _ HD1.out hbl).mono ?_
      rintro e w2 ⟨rfl, hd2, kp2⟩
      have HK2 := Lib.hid (HK1.out.trans kp2 (U := []) (by simp) (fun x hx => .inr (by simp at hx; omega)))
      have hrl := rdN_lt l 0 false 4 hbl
      have hs12 := kp2.size
      have hlong := un_long hbl
      obtain ⟨r, hr⟩ : ∃ r, r = rdN l 0 false 4 := ⟨_, rfl⟩
      obtain ⟨a1, ha1⟩ : ∃ a1, a1 = rdA l 0 false 4 := ⟨_, rfl⟩
      obtain ⟨b1, hb1⟩ : ∃ b1, b1 = rdB l 0 false 4 := ⟨_, rfl⟩
      rw [← hr] at hrl hlong ⊢
      rw [← ha1, ← hb1] at hd2
      have HD2 := Lib.hid hd2
      have HR2 := Lib.hid (And.intro hr (And.intro ha1 hb1))
      clear hd2 kp2 hr ha1 hb1
      have hrl2 : r < 4294967296 := by simpa using hrl
      clear hrl
      by_cases h3 : 1073741824 < r
      · have h3i : (1073741824 : Int) < (r : Int) := by omega
        have he3 : unErr zs a = 3 := by rw [HE.out]; exact hlong h3
        have HE3 := Lib.hid he3
        clear hlong h3 he3
        go_wp2_with fail
        go_ret3
        rw [unX, unNext, HE3.out]
        exact ⟨none, 0, rfl, Own.nil _ _ _ _, HK2.out⟩
      · have h3i : ¬ (1073741824 : Int) < (r : Int) := by omega
        have hw3 : IntKind.i64.wrap (r : Int) = (r : Int) := by rw [IntWalk.i64_in _ (by omega)]
        have H3 := Lib.hid h3
        clear hlong h3
        go_wp2_with fail
        refine (cbytes_any p l a1 b1 (r : Int) _ HD2.out).mono ?_
        rintro e w3 ⟨ad3, cap3, rfl, ho3, hd3, kp3⟩
        have hs2 := HK2.out.size
        have HK3 := Lib.hid (HK2.out.trans kp3 (U := []) (by simp) (fun x hx => .inr (by simp at hx; omega)))
        have hs3 := kp3.size
        have hxb : Bytes8 (rdS l a1 b1 (r : Int)) := by
          unfold rdS
          split
          · exact hbl.sub _ _
          · intro z hz; simp at hz
        have hxl : (rdS l a1 b1 (r : Int)).length ≤ 1000000000 := by
          have hlll := HLL.out
          unfold rdS
          split
          · simp [sub]; omega
          · simp
        obtain ⟨x, hx⟩ : ∃ x, x = rdS l a1 b1 (r : Int) := ⟨_, rfl⟩
        obtain ⟨a2, ha2⟩ : ∃ a2, a2 = rdSA l a1 b1 (r : Int) := ⟨_, rfl⟩
        obtain ⟨b2, hb2⟩ : ∃ b2, b2 = rdSB l a1 b1 (r : Int) := ⟨_, rfl⟩
        rw [← hx] at ho3 hxb hxl ⊢
        rw [← ha2, ← hb2] at hd3
        obtain ⟨lx, hlx⟩ : ∃ lx, lx = x.length := ⟨_, rfl⟩
        rw [← hlx] at hxl ⊢
        have HO3 := Lib.hid ho3
        have HD3 := Lib.hid hd3
        have HLX := Lib.hid hlx
        have HR3 := Lib.hid (And.intro hx (And.intro ha2 hb2))
        clear hx ha2 hb2 ho3 hd3 kp3 hlx
        go_wp2_with fail
        refine (cu32_any p l a2 b2 _ HD3.out hbl).mono ?_
        rintro e w4 ⟨rfl, hd4, kp4⟩
        have HK4 := Lib.hid (HK3.out.trans kp4 (U := []) (by simp) (fun x hx => .inr (by simp at hx; omega)))
        have ho4 := HO3.out.keep kp4 (fun b hb hm => by have := (HO3.out.ob_ge b hb).1; have := HD3.out.lt; simp at hm; omega)
        have hs4 := kp4.size
        have hsl := rdN_lt l a2 b2 4 hbl
        obtain ⟨s, hs⟩ : ∃ s, s = rdN l a2 b2 4 := ⟨_, rfl⟩
        obtain ⟨a3, ha3⟩ : ∃ a3, a3 = rdA l a2 b2 4 := ⟨_, rfl⟩
        obtain ⟨b3, hb3⟩ : ∃ b3, b3 = rdB l a2 b2 4 := ⟨_, rfl⟩
        have hrest := un_rest hbl HR2.out.1 HR2.out.2.1 HR2.out.2.2 H3.out HR3.out.1 HR3.out.2.1 HR3.out.2.2 hs ha3 hb3
        rw [← hs] at hsl ⊢
        rw [← ha3, ← hb3] at hd4
        have HO4 := Lib.hid ho4
        have HD4 := Lib.hid hd4
        clear hs ha3 hb3 ho4 hd4 kp4 HR2 HR3
        cases b3 with
        | true =>
          have HE3 := Lib.hid (HE.out.trans (hrest.1 rfl))
          clear hrest
          go_wp2_with fail
          refine (cbad_any p l a3 true _ HD4.out).mono ?_
          rintro e w5 ⟨rfl, rfl⟩
          go_wp2_with fail
          go_ret3
          rw [unX, unNext, HE3.out]
          exact ⟨none, 0, rfl, Own.nil _ _ _ _, HK4.out⟩
        | false =>
          obtain ⟨hx, ha3, ha3l, hue⟩ := hrest.2 rfl
          have HX := Lib.hid (And.intro hx (And.intro ha3 hue))
          have hll3 := HLL.out
          clear hrest hx ha3 hue
          go_wp2_with fail
          refine (cbad_any p l a3 false _ HD4.out).mono ?_
          rintro e w5 ⟨rfl, rfl⟩
          go_wp2_with fail
          refine (kSum_any ad3 cap3 lx x HLX.out _ HO4.out.rd hxb (by omega)).mono ?_
          rintro e w6 ⟨rfl, kp6⟩
          have HK6 := Lib.hid (HK4.out.tr kp6)
          have HD6 := Lib.hid (HD4.out.keep kp6)
          have HO6 := Lib.hid (HO4.out.keep0 kp6)
          clear kp6
          by_cases hc : s = crc x
          · have hue := HX.out.2.2
            rw [if_pos hc] at hue
            have HE3 := Lib.hid (HE.out.trans hue)
            rw [← hc]
            clear hc hue
            go_wp2_with fail
            refine (cat_any p l a3 false _ HD6.out).mono ?_
            rintro e w7 ⟨rfl, rfl⟩
            have hww : IntKind.i64.wrap ((a : Int) + a3) = (a : Int) + a3 := by rw [IntWalk.i64_in _ (by omega)]
            go_wp2_with fail
            go_ret3
            rw [unX, unNext, HE3.out, if_pos rfl, if_pos rfl, ← HL.out, ← HX.out.1, ← HX.out.2.1]
            exact ⟨ad3, cap3, by rw [← HLX.out]; rfl, HO6.out.mono (by omega), HK6.out⟩
          · have hue := HX.out.2.2
            rw [if_neg hc] at hue
            have HE3 := Lib.hid (HE.out.trans hue)
            have hne : ((s : Int) != ((crc x : Nat) : Int)) = true := by simp; omega
            clear hc hue
            go_wp2_with fail
            go_ret3
            rw [unX, unNext, HE3.out]
            exact ⟨none, 0, rfl, Own.nil _ _ _ _, HK6.out⟩
end Go.Proofs.Ytegnobdablbahaa
