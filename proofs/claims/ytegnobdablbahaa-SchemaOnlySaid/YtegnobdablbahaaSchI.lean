/-
  Schema: columns that are read.
-/
import Derived.Test.YtegnobdablbahaaSchH
import Derived.Test.YtegnobdablbahaaSchC
import Derived.Deep.DeepCutAuto
namespace Go.Proofs.Ytegnobdablbahaa
open Go.RowKit
set_option linter.unusedSimpArgs false
set_option linter.unusedVariables false

/-- What is told of columns. -/
def ToldC (zs : List Int) (L p : Nat) (w : World) (e : Ending) (w' : World) : Prop :=
  (colsR zs = none ∧ (∃ a b, Rdr w' L p zs a b) ∧ e = .returned (.tuple #[.slice none 0 0, .bool false]) ∧ Kp [p] w w') ∨
  ∃ (l : List Col) (a : Nat) (b : Bool) (ad : Option Addr) (cap : Nat), colsR zs = some (l, a, b) ∧ e = .returned (.tuple #[.slice ad l.length cap, .bool true]) ∧ OwnS ccells 2 w' w.heap.size 38 ad cap l ∧ Rdr w' L p zs a b ∧ COk l ∧ Kp [p] w w'

theorem colsF_step {zs : List Int} {N k a : Nat} {b : Bool} {acc : List Col} (h : k < N) : colsF zs (N - k) a b acc = colsF zs ((N - (k + 1)) + 1) a b acc := by
  rw [show N - k = (N - (k + 1)) + 1 by omega]

set_option maxHeartbeats 1600000 in
set_option maxRecDepth 100000 in
theorem scolumns_any (L p : Nat) (zs : List Int) (w : World) (h : Rdr w L p zs 0 false) (hb : Bytes8 zs) (hL : L ≤ w.heap.size) :
    Calls Try.prog 51 #[.pointer (some ⟨p, 0, none⟩)] w fun e w' => ToldC zs L p w e w' := by
  have H := Lib.hid h
  have HB := Lib.hid hb
  have hpL : p < L := h.lt
  clear h hb
  go_enter Try.func51, Try.ntmps51
  go_wp2_with fail
  refine (cu16_any p zs 0 false w H.out HB.out).mono ?_
  rintro e w1 ⟨rfl, hp1, kp1⟩
  have hN := rdN_lt zs 0 false 2 HB.out
  have HCR : Hid (colsR zs = if 256 < rdN zs 0 false 2 then none else colsF zs (rdN zs 0 false 2) (rdA zs 0 false 2) (rdB zs 0 false 2) []) := Lib.hid rfl
  obtain ⟨N, hNN⟩ : ∃ N, N = rdN zs 0 false 2 := ⟨_, rfl⟩
  rw [← hNN] at hN ⊢
  rw [← hNN] at HCR
  have HP1 := Lib.hid hp1
  have HK1 := Lib.hid kp1
  have hN2 : N < 65536 := hN
  clear hNN hp1 kp1 hN
  by_cases h256 : (256 : Int) < (N : Int)
  · go_wp2_with fail
    go_ret2
    exact .inl ⟨by rw [HCR.out, if_pos (by omega)], ⟨_, _, HP1.out⟩, rfl, HK1.out⟩
  · have HCR2 : Hid (colsR zs = colsF zs N (rdA zs 0 false 2) (rdB zs 0 false 2) []) := Lib.hid (by rw [HCR.out, if_neg (by omega)])
    clear HCR
    go_wp2_with fail
    go_loopw [2, 5, 6, 13] (fun vl _ _ vi wr => ∃ (k a : Nat) (b : Bool) (acc : List Col) (ad : Option Addr) (cap : Nat), k ≤ N ∧ vi = .int .i64 k ∧ vl = .slice ad k cap ∧ Hid (k = acc.length) ∧ Hid (OwnS ccells 2 wr w.heap.size 38 ad cap acc) ∧ Hid (Rdr wr L p zs a b) ∧ Hid (colsR zs = colsF zs (N - k) a b acc) ∧ Hid (COk acc) ∧ Hid (Kp [p] w wr)) (fun _ _ _ vi _ => N - (intOf vi).toNat)
    case atStart => exact ⟨0, _, _, [], none, 0, Nat.zero_le _, rfl, rfl, Lib.hid rfl, Lib.hid (OwnS.nil _ _ _ _ _), HP1, HCR2, Lib.hid (by intro x hx; simp at hx), HK1⟩
    case round =>
      obtain ⟨k, a, b, acc, ad, cap, hk, rfl, rfl, HAL, HOW, HR, HX, HCK, HK⟩ := hrel
      obtain ⟨w2, rfl⟩ : ∃ w2, w2 = wr := ⟨_, rfl⟩
      by_cases hlt : k < N
      · have hst := HX.out
        rw [colsF_step hlt, colsF] at hst
        have v1lt := rdN_lt zs a b 1 HB.out
        go_wp2_with fail
        refine (cu8_any p zs a b w2 HR.out HB.out).mono ?_
        rintro e w3 ⟨rfl, hp3, kp3⟩
        obtain ⟨v1, hv1⟩ : ∃ v, v = rdN zs a b 1 := ⟨_, rfl⟩
        obtain ⟨a1, ha1⟩ : ∃ v, v = rdA zs a b 1 := ⟨_, rfl⟩
        obtain ⟨b1, hb1⟩ : ∃ v, v = rdB zs a b 1 := ⟨_, rfl⟩
        rw [← hv1, ← ha1, ← hb1] at hst
        rw [← hv1] at v1lt ⊢
        rw [← ha1, ← hb1] at hp3
        have v1l : v1 < 256 := v1lt
        have HST := Lib.hid hst
        have HP3 := Lib.hid hp3
        have HK3 := Lib.hid (kp_same HK.out kp3)
        have HO3 := Lib.hid (HOW.out.keep kp3 (fun y hy hx => by have := (HOW.out.ob_ge y hy).1; simp at hx; omega))
        clear hv1 ha1 hb1 hst hp3 kp3 v1lt
        go_upto_region 7 with (fail)
        go_cut [27] (fun v27 wx => v27 = .bool (decide (3 < v1 ∨ (v1 = 0 ∧ b1 = false))) ∧ w3 = wx)
        case first =>
          by_cases h3 : (3 : Int) < (v1 : Int)
          · go_wp2_with fail
            go_meet
            exact ⟨by rw [decide_eq_true (.inl (by omega))], rfl⟩
          · cases h0 : (v1 : Int) == 0
            · go_wp2_with fail
              go_meet
              exact ⟨by rw [decide_eq_false (by simp at h0; omega)], rfl⟩
            · go_wp2_with fail
              refine (cbad_any p zs a1 b1 w3 HP3.out).mono ?_
              rintro e w4 ⟨rfl, h4⟩
              subst w4
              cases b1
              · go_wp2_with fail
                go_meet
                exact ⟨by rw [decide_eq_true (.inr ⟨by simp at h0; omega, by simp⟩)], rfl⟩
              · go_wp2_with fail
                go_meet
                exact ⟨by rw [decide_eq_false (by simp; omega)], rfl⟩
        obtain ⟨rfl, h4⟩ := hcut
        subst wc
        by_cases hbad : 3 < v1 ∨ (v1 = 0 ∧ b1 = false)
        · rw [decide_eq_true hbad]
          have HBD := Lib.hid hbad
          clear hbad
          go_wp2_with fail
          go_ret2
          exact .inl ⟨by rw [HST.out, if_pos HBD.out], ⟨_, _, HP3.out⟩, rfl, HK3.out⟩
        · rw [decide_eq_false hbad]
          have HBD := Lib.hid hbad
          have hv3 : v1 ≤ 3 := by omega
          clear hbad
          go_wp2_with fail
          refine (cu8_any p zs a1 b1 w3 HP3.out HB.out).mono ?_
          rintro e w4 ⟨rfl, hp4, kp4⟩
          have v2lt := rdN_lt zs a1 b1 1 HB.out
          have hst2 := HST.out
          rw [if_neg HBD.out] at hst2
          obtain ⟨v2, hv2⟩ : ∃ v, v = rdN zs a1 b1 1 := ⟨_, rfl⟩
          obtain ⟨a2, ha2⟩ : ∃ v, v = rdA zs a1 b1 1 := ⟨_, rfl⟩
          obtain ⟨b2, hb2⟩ : ∃ v, v = rdB zs a1 b1 1 := ⟨_, rfl⟩
          rw [← hv2, ← ha2, ← hb2] at hst2
          rw [← hv2] at v2lt ⊢
          rw [← ha2, ← hb2] at hp4
          have v2l : v2 < 256 := v2lt
          have HST2 := Lib.hid hst2
          have HP4 := Lib.hid hp4
          have HK4 := Lib.hid (kp_same HK3.out kp4)
          have HO4 := Lib.hid (HO3.out.keep kp4 (fun y hy hx => by have := (HO3.out.ob_ge y hy).1; simp at hx; omega))
          clear hv2 ha2 hb2 hst2 hp4 kp4 v2lt HST
          by_cases h64 : (64 : Int) < (v2 : Int)
          · go_wp2_with fail
            go_ret2
            exact .inl ⟨by rw [HST2.out, if_pos (by omega)], ⟨_, _, HP4.out⟩, rfl, HK4.out⟩
          · have HST3 := Lib.hid (HST2.out.trans (if_neg (by omega)))
            go_wp2_with fail
            refine (cbytes_any p zs a2 b2 (v2 : Int) w4 HP4.out).mono ?_
            rintro e w5 ⟨ad5, cap5, rfl, ho5, hp5, kp5⟩
            have hsl : (rdS zs a2 b2 (v2 : Nat)).length ≤ 64 := by
              by_cases hc : b2 = false ∧ 0 ≤ (v2 : Int) ∧ a2 + (v2 : Int).toNat ≤ zs.length
              · rw [rdS, if_pos hc, sub_length _ _ _ hc.2.2]; omega
              · rw [(rdS_no hc).1]; simp
            obtain ⟨t, ht⟩ : ∃ t, t = rdS zs a2 b2 (v2 : Nat) := ⟨_, rfl⟩
            rw [← ht] at ho5 hsl ⊢
            have hcv := cvs w5 ad5 cap5 t.length t ho5.rd rfl
            have hns : (strOfNums t).size ≤ 64 := by rw [strOfNums_size]; exact hsl
            have HT := Lib.hid ht
            obtain ⟨nm, hnm⟩ : ∃ nm, nm = strOfNums t := ⟨_, rfl⟩
            rw [← hnm] at hcv hns
            have HNM := Lib.hid hnm
            have HP5 := Lib.hid hp5
            have HK5 := Lib.hid (kp_same HK4.out kp5)
            have hs5 := HK5.out.size
            have HO5 := Lib.hid (HO4.out.keep kp5 (fun y hy hx => by have := (HO4.out.ob_ge y hy).1; simp at hx; omega))
            have HB5 : Hid (w.heap.size ≤ (w5.alloc (.cells #[.string nm, .int .u8 (v1 : Int)] 38)).heap.size) := Lib.hid (by simp; omega)
            have HSRC : Hid (Src Try.prog 2 22 (.slice (some ⟨w5.heap.size, 0, none⟩) 1 1) 1 ([(⟨nm, (v1 : Int)⟩ : Col)].flatMap ccells) (w5.alloc (.cells #[.string nm, .int .u8 (v1 : Int)] 38))) := Lib.hid (src_oneS clies (x := ⟨nm, (v1 : Int)⟩) Try.underlying22 (heap_alloc_at rfl))
            clear ht hnm ho5 hp5 kp5
            go_wp2_with (at_builtin; refine wpList_appS clies rfl (.tmp 33) (.tmp 40) 22 22 rfl w.heap.size 38 (.agg #[.string ⟨#[]⟩, .int .u8 0]) 24 Try.underlying22 infoColm rfl ad cap k acc HAL.out [(⟨nm, (v1 : Int)⟩ : Col)] _ 1 rfl rfl rfl (HO5.out.keep0 ((Kp.refl [] w5).alloc _)) HSRC.out (by omega) (by omega) HB5.out ?_; intro ad6 cap6 w6 ho6 kp6 _ _; have HO6 := Lib.hid ho6; have HKX := Lib.hid (show Kp (ob ad cap) w5 w6 from (((Kp.refl [] w5).alloc (.cells #[.string nm, .int .u8 (v1 : Int)] 38)).trans kp6 (by simp) (by intro y hy; exact .inl hy))); clear ho6 kp6)
            have HR6 := Lib.hid (HP5.out.keepS HKX.out (fun y hy => by have := (HOW.out.ob_ge y hy).1; omega))
            have HK6 := Lib.hid (HK5.out.trans HKX.out (U := [p]) (by simp) (fun y hy => .inr (HOW.out.ob_ge y hy).1))
            go_roundw
            case rel => exact ⟨k + 1, _, _, acc ++ [⟨nm, (v1 : Int)⟩], ad6, cap6, hlt, by go_num, rfl, Lib.hid (by rw [List.length_append, ← HAL.out]; rfl), HO6, HR6, Lib.hid (by rw [HST3.out, ← HT.out, ← HNM.out]), Lib.hid (fun x hx => by
              rcases List.mem_append.1 hx with h | h
              · exact HCK.out x h
              · simp at h; subst h; exact ⟨by show nm.size ≤ maxLen; unfold maxLen; omega, by show 0 ≤ (v1 : Int); omega, by show (v1 : Int) < 256; omega⟩), HK6⟩
            case measure => simp [intOf]; omega
      · obtain rfl : k = N := by omega
        go_wp2_with fail
        go_ret2
        have hx := HX.out
        rw [Nat.sub_self, colsF] at hx
        exact .inr ⟨acc, a, b, ad, cap, hx, by rw [HAL.out]; rfl, HOW.out, HR.out, HCK.out, HK.out⟩
end Go.Proofs.Ytegnobdablbahaa
