/-
  Sections: what the document reads.
-/
import Derived.Test.YtegnobdablbahaaSec8
namespace Go.Proofs.Ytegnobdablbahaa
open Go.RowKit
set_option linter.unusedSimpArgs false
set_option linter.unusedVariables false

theorem mark_at : ∀ (i : Nat) (h : i < ({ data := #[73, 83, 71, 76] } : ByteArray).size), (((({ data := #[73, 83, 71, 76] } : ByteArray)[i]'h).toNat : Nat) : Int) = nth mark4 i
  | 0, _ => rfl
  | 1, _ => rfl
  | 2, _ => rfl
  | 3, _ => rfl
  | m + 4, h => absurd (show m + 4 < 4 from h) (by omega)
theorem mark_take (i : Nat) (h : i < 4) : mark4.take (i + 1) = mark4.take i ++ [nth mark4 i] := take_nth mark4 i h
theorem sub_take (zs : List Int) (i : Nat) : sub zs 0 i = zs.take i := by simp [sub]
theorem sub_one (zs : List Int) (p : Nat) (h : p < zs.length) : sub zs p (p + 1) = [nth zs p] := by
  rw [sub, Nat.add_sub_cancel_left, List.drop_eq_getElem_cons h, List.take_succ_cons, List.take_zero]; simp [nth, h]
/-- A byte that is not the mark's. -/
theorem rd_form {zs : List Int} {i : Nat} (h : i < 4) (hi : i < zs.length) (hm : nth zs i ≠ nth mark4 i) : rdP zs = (5, []) := by
  rw [rdP, if_pos]
  intro e
  have h1 := congrArg (fun l => nth l i) e
  rw [sub_take] at h1
  apply hm
  simpa [nth, h, hi, show i < 4 by omega] using h1
theorem rd_short {zs : List Int} {i : Nat} (h : i < 4) (hi : zs.length = i) (hm : sub zs 0 i = mark4.take i) : rdP zs = (4, []) := by
  rw [rdP, if_neg, if_pos (by omega)]
  rw [hi, ← hm, sub_take, sub_take, ← hi, List.take_of_length_le (by omega), List.take_of_length_le (Nat.le_refl _)]
  simp

set_option maxHeartbeats 1600000 in
set_option maxRecDepth 100000 in
theorem r21Read_any (ad : Option Addr) (cap n : Nat) (zs : List Int) (hn : n = zs.length) (w : World) (hr : Rd w .u8 ad cap zs) (hb : Bytes8 zs) (hl : n ≤ 1000000) :
    Calls Try.prog 39 #[.slice ad n cap] w fun e w' => ToldX zs w e w' := by
  have HR := Lib.hid hr
  have HN := Lib.hid hn
  have HB := Lib.hid hb
  have hcap := hr.1
  rw [← hn] at hcap
  have hcap2 := hr.2.1
  clear hr hn hb
  go_enter Try.func39, Try.ntmps39
  go_wp2_with fail
  go_loopw [5] (fun vi wr => ∃ (i : Nat), i ≤ 4 ∧ i ≤ n ∧ vi = .int .i64 i ∧ Hid (sub zs 0 i = mark4.take i) ∧ Hid (Kp [] w wr)) (fun vi _ => 4 - (intOf vi).toNat)
  case atStart => exact ⟨0, by omega, by omega, rfl, Lib.hid rfl, Lib.hid (Kp.refl _ _)⟩
  case round =>
    obtain ⟨i, hi, hin, rfl, HS, HK⟩ := hrel
    by_cases h4 : i < 4
    · by_cases hlt : i < n
      · have hil : i < zs.length := by rw [← HN.out]; exact hlt
        obtain ⟨b, off, rfl, c0⟩ := (HR.out.keep0 HK.out).2.2 i hil
        obtain ⟨m, hm, hm2⟩ := nth_b8 HB.out i hil
        rw [hm] at c0
        have HM := Lib.hid hm
        clear hm hil
        have hma := mark_at i h4
        by_cases hmm : (m : Int) = nth mark4 i
        · have hq : ((m : Int) != (((({ data := #[73, 83, 71, 76] } : ByteArray)[i]'h4).toNat : Nat) : Int)) = false := by rw [hma, hmm]; simp
          have HST : Hid (sub zs 0 (i + 1) = mark4.take (i + 1)) := Lib.hid (by rw [mark_take i h4, ← HS.out, sub_take, sub_take, take_nth zs i (by rw [← HN.out]; exact hlt), HM.out, hmm])
          clear hma hmm
          go_wp2_with fail
          go_quiet (fail)
          have HK2 := Lib.hid (HK.out.tr (kdN wr nq))
          generalize wr.drewN nq = w2 at *
          clear c0
          go_wp2_with fail
          go_roundw
          case rel => exact ⟨i + 1, by omega, by omega, by go_num, HST, HK2⟩
          case measure => simp [intOf]; omega
        · have hq : ((m : Int) != (((({ data := #[73, 83, 71, 76] } : ByteArray)[i]'h4).toNat : Nat) : Int)) = true := by rw [hma]; simpa using hmm
          have HF : Hid (rdP zs = (5, [])) := Lib.hid (rd_form h4 (by rw [← HN.out]; exact hlt) (by rw [HM.out]; exact hmm))
          clear hma hmm
          go_wp2_with fail
          go_quiet (fail)
          have HK2 := Lib.hid (HK.out.tr (kdN wr nq))
          generalize wr.drewN nq = w2 at *
          clear c0
          go_wp2_with fail
          go_ret2
          exact ToldX.no 5 HF.out HK2.out
      · obtain rfl : i = n := by omega
        have HF : Hid (rdP zs = (4, [])) := Lib.hid (rd_short h4 HN.out.symm HS.out)
        go_wp2_with fail
        go_ret2
        exact ToldX.no 4 HF.out HK.out
    · obtain rfl : i = 4 := by omega
      have ht : Hid (mark4.take zs.length = mark4) := Lib.hid (List.take_of_length_le (by rw [← HN.out]; simp [mark4]; omega))
      have HX : Hid (sub zs 0 4 = mark4) := Lib.hid HS.out
      by_cases h6 : (n : Int) < 6
      · go_wp2_with fail
        go_ret2
        exact ToldX.no 4 (by rw [rdP, ht.out, if_neg (by simpa using HX.out), if_pos (by rw [← HN.out]; omega)]) HK.out
      · have h6z : 6 ≤ zs.length := by rw [← HN.out]; omega
        obtain ⟨b, off, e1, c4⟩ := (HR.out.keep0 HK.out).2.2 4 (by omega)
        obtain ⟨b', off', e2, c5⟩ := (HR.out.keep0 HK.out).2.2 5 (by omega)
        subst e1
        cases e2
        obtain ⟨m4, q4, b4⟩ := nth_b8 HB.out 4 (by omega)
        obtain ⟨m5, q5, b5⟩ := nth_b8 HB.out 5 (by omega)
        rw [q4] at c4
        rw [q5] at c5
        obtain ⟨N, hN⟩ : ∃ N, N = m4 + 256 * m5 := ⟨_, rfl⟩
        have HHD : Hid (hdN zs = N) := Lib.hid (by rw [hdN, q4, q5, hN]; omega)
        have hNv : (m4 : Int) + 256 * (m5 : Int) = (N : Int) := by omega
        have HN2 : N ≤ 65535 := by omega
        clear q4 q5 hN h6z
        go_wp2_with fail
        go_quiet (fail)
        have HK1 := Lib.hid (HK.out.tr (kdN wr nq))
        generalize wr.drewN nq = w1 at *
        clear c4 c5 hNv
        by_cases hN : (2000 : Int) < (N : Int)
        · go_wp2_with fail
          go_ret2
          exact ToldX.no 3 (by rw [rdP, ht.out, if_neg (by simpa using HX.out), if_neg (by rw [← HN.out]; omega), HHD.out, if_pos (by omega)]) HK1.out
        · have HRP : Hid (rdP zs = rdL zs N 6 []) := Lib.hid (by rw [rdP, ht.out, if_neg (by simpa using HX.out), if_neg (by rw [← HN.out]; omega), HHD.out, if_neg (by omega)])
          go_wp2_with fail
          go_loopw [7, 8, 9] (fun va vl vi wr => ∃ (k a : Nat) (l : List Sec) (ad' : Option Addr) (cap' : Nat), k ≤ N ∧ vi = .int .i64 k ∧ va = .int .i64 a ∧ vl = .slice ad' k cap' ∧ a ≤ n ∧ Hid (k = l.length) ∧ Hid (rdP zs = rdL zs (N - k) a (l.map keyS)) ∧ Hid (OwnS scells 2 wr w.heap.size 50 ad' cap' l) ∧ Hid (∀ x ∈ l, Own wr w.heap.size 5 .u8 x.ad x.cap x.bs) ∧ Hid (XOk l) ∧ Hid (Kp [] w wr)) (fun _ _ vi _ => N - (intOf vi).toNat)
          case atStart => exact ⟨0, 6, [], none, 0, Nat.zero_le _, rfl, rfl, rfl, by omega, Lib.hid rfl, HRP, Lib.hid (OwnS.nil _ _ _ _ _), Lib.hid (by simp), Lib.hid (by intro x hx; simp at hx), HK1⟩
          case round =>
            obtain ⟨k, a, l, ad', cap', hk, rfl, rfl, rfl, ha, HL, HRD, HO, HOB, HXO, HK⟩ := hrel
            have hwr := HK.out.size
            by_cases hlt : k < N
            · have hstep := rdL_step (zs := zs) (a := a) (acc := l.map keyS) hlt
              rw [← HRD.out] at hstep
              have HST := Lib.hid hstep
              clear hstep
              by_cases han : a < n
              · have hal : a < zs.length := by rw [← HN.out]; exact han
                obtain ⟨b2, off2, e3, c0⟩ := (HR.out.keep0 HK.out).2.2 a hal
                cases e3
                obtain ⟨m, hm, hm2⟩ := nth_b8 HB.out a hal
                rw [hm] at c0
                have HM : Hid (nmN zs a = m) := Lib.hid (by rw [nmN, hm]; rfl)
                have HAL := Lib.hid hal
                clear hm hal
                by_cases h0 : m = 0
                · subst h0
                  have HE : Hid (nmE zs a = 5) := Lib.hid (by rw [nmE, if_neg (by have := HAL.out; omega), HM.out, if_pos (by omega)])
                  go_wp2_with fail
                  go_ret2
                  exact ToldX.no 5 (by rw [HST.out, HE.out, if_pos (by decide)]) HK.out
                · have h0q : ((m : Int) == 0) = false := by simp; omega
                  by_cases h20 : (20 : Int) < (m : Int)
                  · have HE : Hid (nmE zs a = 5) := Lib.hid (by rw [nmE, if_neg (by have := HAL.out; omega), HM.out, if_pos (by omega)])
                    go_wp2_with fail
                    go_ret2
                    exact ToldX.no 5 (by rw [HST.out, HE.out, if_pos (by decide)]) HK.out
                  · go_wp2_with fail
                    go_loopw [7, 11, 12] (fun va vs vi w3 => ∃ (i p : Nat), i ≤ m ∧ p ≤ n ∧ vi = .int .i64 i ∧ va = .int .i64 p ∧ vs = .string (strOfNums (sub zs (a + 1) p)) ∧ Hid (p = a + 1 + i) ∧ Hid ((sub zs (a + 1) p).all letter = true) ∧ w3 = wr) (fun _ _ vi _ => m - (intOf vi).toNat)
                    case atStart =>
                      refine ⟨0, a + 1, Nat.zero_le _, by omega, rfl, by go_num, ?_, Lib.hid rfl, Lib.hid (by simp [sub]), rfl⟩
                      simp [sub]; rfl
                    case round =>
                      obtain ⟨i, p, him, hpn, rfl, rfl, rfl, HP, HALL, rfl⟩ := hrel
                      by_cases hil : i < m
                      · by_cases hpl : p < n
                        · have hpz : p < zs.length := by rw [← HN.out]; exact hpl
                          obtain ⟨b3, off3, e4, cp⟩ := (HR.out.keep0 HK.out).2.2 p hpz
                          cases e4
                          obtain ⟨q, hq⟩ : ∃ q, q = nth zs p := ⟨_, rfl⟩
                          rw [← hq] at cp
                          have HQ := Lib.hid hq
                          have HPZ := Lib.hid hpz
                          clear hq hpz
                          cases hlt2 : letter q with
                          | true =>
                            have HLT := Lib.hid hlt2
                            have hrs : Rd wr .u8 (some ⟨b, off + p, none⟩) (cap - p) (sub zs p (p + 1)) := by
                              have h := Rd.slice (a := p) (b := p + 1) (HR.out.keep0 HK.out) (by omega) HPZ.out
                              rw [Option.map_some, Addr.add_lit] at h; exact h
                            have hcv := cvs wr _ _ 1 (sub zs p (p + 1)) hrs (by rw [sub_length _ _ _ HPZ.out]; omega)
                            clear hrs
                            have hadd := fun wx : World => run_str_add (P := Try.prog) wx (sub zs (a + 1) p) (sub zs p (p + 1)) (by rw [sub_length _ _ _ HPZ.out, sub_length _ _ _ (Nat.le_of_lt HPZ.out)]; omega)
                            rw [← sub_split zs (a + 1) p (p + 1) (by have := HP.out; omega) (by omega)] at hadd
                            have HALL2 : Hid ((sub zs (a + 1) (p + 1)).all letter = true) := Lib.hid (by
                              rw [sub_split zs (a + 1) p (p + 1) (by have := HP.out; omega) (by omega), List.all_append, HALL.out, Bool.true_and]
                              rw [sub_one zs p HPZ.out, ← HQ.out]; simp [HLT.out])
                            clear hlt2
                            go_wp2_with (go_at_call 63; refine (letter_any _ _).mono ?_; rintro e w7 ⟨rfl, rfl⟩; rw [HLT.out])
                            go_roundw
                            case rel => exact ⟨i + 1, p + 1, by omega, by omega, by go_num, by go_num, rfl, Lib.hid (by have := HP.out; omega), HALL2, by first | rfl | trivial⟩
                            case measure => simp [intOf]; omega
                          | false =>
                            have HLT := Lib.hid hlt2
                            have HE : Hid (nmE zs a = 5) := Lib.hid (by
                              rw [nmE, if_neg (by have := HAL.out; omega), HM.out, if_neg (by omega), if_pos]
                              have hp := HP.out
                              have hz := HPZ.out
                              rw [nmS, HM.out, List.all_eq_false]
                              refine ⟨q, ?_, by simp [HLT.out]⟩
                              rw [HQ.out]
                              have h1 := nth_sub zs (a + 1) (a + 1 + m) i (by omega)
                              rw [show a + 1 + i = p by omega] at h1
                              rw [← h1]
                              exact nth_mem (by simp [sub]; omega))
                            clear hlt2
                            go_wp2_with (go_at_call 63; refine (letter_any _ _).mono ?_; rintro e w7 ⟨rfl, rfl⟩; rw [HLT.out])
                            go_ret2
                            exact ToldX.no 5 (by rw [HST.out, HE.out, if_pos (by decide)]) HK.out
                        · obtain rfl : p = n := by omega
                          have HE : Hid (nmE zs a = 4) := Lib.hid (by
                            have hp := HP.out
                            rw [nmE, if_neg (by have := HAL.out; omega), HM.out, if_neg (by omega), show nmS zs a = sub zs (a + 1) p by rw [nmS, HM.out, sub_over _ _ _ (by rw [← HN.out]; omega), HN.out], HALL.out, if_neg (by simp), if_pos (by rw [← HN.out]; omega)])
                          go_wp2_with fail
                          go_ret2
                          exact ToldX.no 4 (by rw [HST.out, HE.out, if_pos (by decide)]) HK.out
                      · obtain rfl : i = m := by omega
                        have HE : Hid (nmE zs a = 0) := Lib.hid (by
                          have hp := HP.out
                          rw [nmE, if_neg (by have := HAL.out; omega), HM.out, if_neg (by omega), show nmS zs a = sub zs (a + 1) p by rw [nmS, HM.out, hp], HALL.out, if_neg (by simp), if_neg (by rw [← HN.out]; omega)])
                        obtain ⟨g1, g2, g3, g4, g5, g6, g7⟩ := nmE_zero HE.out
                        have HC : Hid (p = nmX zs a) := Lib.hid (by rw [g6, HM.out, HP.out])
                        obtain ⟨s, hs⟩ : ∃ s, s = strOfNums (sub zs (a + 1) p) := ⟨_, rfl⟩
                        have HS : Hid (s = nmT zs a) := Lib.hid (by rw [g7, nmS, HM.out, hs, HP.out])
                        have hsz : s.size ≤ 20 := by
                          rw [hs, strOfNums_size]
                          have : (sub zs (a + 1) p).length ≤ p - (a + 1) := by simp [sub]; omega
                          have := HP.out
                          omega
                        rw [← hs]
                        clear g1 g2 g3 g4 g5 g6 g7 hs
                        obtain ⟨f, hf⟩ : ∃ f, f = fndX l s := ⟨_, rfl⟩
                        have HF := Lib.hid hf
                        clear hf
                        by_cases hf0 : (0 : Int) ≤ f
                        · go_wp2_with fail
                          refine (r21Find_any ad' cap' k l s HL.out _ (HO.out.rd slies)).mono ?_
                          rintro e w3 ⟨rfl, rfl⟩
                          rw [← HF.out]
                          go_wp2_with fail
                          go_ret2
                          exact ToldX.no 8 (by rw [HST.out, if_neg (by rw [HE.out]; simp), ← HS.out, ← fndK_eq, ← HF.out, if_pos hf0]) HK.out
                        · have HF0 := Lib.hid hf0
                          go_wp2_with fail
                          refine (r21Find_any ad' cap' k l s HL.out _ (HO.out.rd slies)).mono ?_
                          rintro e w3 ⟨rfl, rfl⟩
                          rw [← HF.out]
                          go_wp2_with fail
                          refine (r03Unframe_any (some ⟨b, off, none⟩) cap n (p : Int) zs HN.out _ (HR.out.keep0 HK.out) HB.out (by omega)).mono ?_
                          rintro e w4 ⟨ad4, cap4, rfl, ho4, kp4⟩
                          have HO4 := Lib.hid (ho4.mono HK.out.size)
                          have HK4 := Lib.hid (HK.out.tr kp4)
                          have HKs := Lib.hid kp4
                          clear ho4 kp4
                          obtain ⟨u, hu⟩ : ∃ u, u = unErr zs (p : Int) := ⟨_, rfl⟩
                          rw [← hu]
                          have HU := Lib.hid hu
                          clear hu
                          by_cases hu0 : u = 0
                          · subst hu0
                            obtain ⟨v1, v2, v3⟩ := unErr_zero HU.out.symm
                            obtain ⟨c2, hc2⟩ : ∃ c2, c2 = p + (unN (unL zs p) + 8) := ⟨_, rfl⟩
                            rw [← hc2] at v2 v3
                            rw [← HN.out] at v3
                            rw [v2]
                            have HC2 := Lib.hid v2
                            obtain ⟨xb, hxb⟩ : ∃ xb, xb = unX zs (p : Int) := ⟨_, rfl⟩
                            have hbl := unX_length zs (p : Int)
                            have hb8 := unX_bytes HB.out (p : Int)
                            rw [← hxb] at hbl hb8
                            rw [← hxb]
                            have ho5 := HO4.out
                            rw [← hxb] at ho5
                            have HO5 := Lib.hid ho5
                            have HXB := Lib.hid hxb
                            have HB8 := Lib.hid hb8
                            have hbl2 : xb.length ≤ 9223372036854775807 := by rw [← HN.out] at hbl; omega
                            have hs4 := HK4.out.size
                            clear v1 v2 hc2 hxb hb8 ho5 hbl
                            go_wp2_with (at_builtin; refine wpList_appS slies rfl (.tmp 108) (.tmp 112) 47 47 rfl w.heap.size 50 (.agg #[.string ⟨#[]⟩, .slice none 0 0]) 40 Try.underlying47 infoSec rfl ad' cap' k l HL.out [⟨s, ad4, cap4, xb⟩] _ 1 rfl rfl rfl ((HO.out.keep0 HKs.out).alloc _) (src_oneS slies Try.underlying47 (heap_alloc_at rfl)) (by omega) (by omega) (by simp; omega) ?_; intro ad6 cap6 w6 ho6 kp6 hob6 _; have HOh := Lib.hid ((HO.out.keep0 HKs.out).alloc (.cells (scells ⟨s, ad4, cap4, xb⟩).toArray 50)); have HKp := Lib.hid kp6; have HO6 := Lib.hid ho6; have HK6 := Lib.hid ((HK4.out.alloc _).trans kp6 (U := []) (by simp) (fun y hy => .inr (HO.out.ob_ge y hy).1)); clear ho6 kp6 hob6)
                            go_roundw
                            case rel =>
                              refine ⟨k + 1, c2, l ++ [⟨s, ad4, cap4, xb⟩], ad6, cap6, hlt, by go_num, rfl, rfl, v3, Lib.hid (by rw [List.length_append, ← HL.out]; rfl), Lib.hid ?_, HO6, Lib.hid ?_, Lib.hid ?_, HK6⟩
                              · rw [HST.out, if_neg (by rw [HE.out]; simp), ← HS.out, ← fndK_eq, ← HF.out, if_neg (by have := HF0.out; omega), ← HC.out, ← HU.out, if_neg (by simp), HC2.out, Int.toNat_natCast, ← HXB.out, List.map_append]; rfl
                              · intro x hx
                                rcases List.mem_append.1 hx with hx | hx
                                · exact (((HOB.out x hx).keep0 HKs.out).alloc _).keepH HOh.out HKp.out
                                · simp at hx; subst hx
                                  exact (HO5.out.alloc _).keepH HOh.out HKp.out
                              · intro x hx
                                rcases List.mem_append.1 hx with hx | hx
                                · exact HXO.out x hx
                                · simp at hx; subst hx
                                  exact ⟨HB8.out, by unfold maxLen; show s.size ≤ _; omega, hbl2⟩
                            case measure => simp [intOf]; omega
                          · have huq : (u != 0) = true := by simpa using hu0
                            have HU0 := Lib.hid hu0
                            clear hu0
                            go_wp2_with fail
                            go_ret2
                            exact ToldX.no u (by rw [HST.out, if_neg (by rw [HE.out]; simp), ← HS.out, ← fndK_eq, ← HF.out, if_neg (by have := HF0.out; omega), ← HC.out, ← HU.out, if_pos HU0.out]) HK4.out
              · obtain rfl : a = n := by omega
                have HE : Hid (nmE zs a = 4) := Lib.hid (by rw [nmE, if_pos (by rw [← HN.out]; exact Nat.le_refl _)])
                go_wp2_with fail
                go_ret2
                exact ToldX.no 4 (by rw [HST.out, HE.out, if_pos (by decide)]) HK.out
            · obtain rfl : k = N := by omega
              by_cases hlast : a < n
              · go_wp2_with fail
                go_ret2
                exact ToldX.no 5 (by rw [HRD.out, Nat.sub_self, rdL, if_pos (by rw [← HN.out]; exact hlast)]) HK.out
              · have hlast2 : ¬ (a : Int) < (n : Int) := by omega
                have he : Hid (rdP zs = (0, l.map keyS)) := Lib.hid (by rw [HRD.out, Nat.sub_self, rdL, if_neg (by rw [← HN.out]; exact hlast)])
                go_wp2_with fail
                go_ret2
                exact ⟨l, ad', cap', by rw [he.out, ← HL.out]; rfl, by rw [he.out], HO.out, HOB.out, HXO.out, HK.out⟩
end Go.Proofs.Ytegnobdablbahaa
