/-
  Sections: what is read.
-/
import Derived.Test.YtegnobdablbahaaSec7
namespace Go.Proofs.Ytegnobdablbahaa
open Go.RowKit
set_option linter.unusedSimpArgs false
set_option linter.unusedVariables false

/-- Where a name stands among what was read. -/
def fndK (acc : List (ByteArray × List Int)) (s : ByteArray) : Int := fnd (acc.map (·.1)) s 0
theorem fndK_eq (l : List Sec) (s : ByteArray) : fndX l s = fndK (l.map keyS) s := by rw [fndX, fndK, List.map_map]; rfl
/-- What k sections are read as, from a place on. -/
def rdL (zs : List Int) : Nat → Nat → List (ByteArray × List Int) → Int × List (ByteArray × List Int)
  | 0, a, acc => if a < zs.length then (5, []) else (0, acc)
  | k + 1, a, acc => if nmE zs a ≠ 0 then (nmE zs a, []) else if 0 ≤ fndK acc (nmT zs a) then (8, []) else if unErr zs (nmX zs a) ≠ 0 then (unErr zs (nmX zs a), []) else rdL zs k (unNext zs (nmX zs a)).toNat (acc ++ [(nmT zs a, unX zs (nmX zs a))])
def hdN (zs : List Int) : Nat := (nth zs 4 + 256 * nth zs 5).toNat
def mark4 : List Int := [73, 83, 71, 76]
/-- What bytes are read as. -/
def rdP (zs : List Int) : Int × List (ByteArray × List Int) :=
  if sub zs 0 4 ≠ mark4.take zs.length then (5, []) else if zs.length < 6 then (4, []) else if 2000 < hdN zs then (3, []) else rdL zs (hdN zs) 6 []

/-- What is told of bytes read. -/
def ToldX (zs : List Int) (w : World) (e : Ending) (w' : World) : Prop :=
  ∃ (l : List Sec) (ad : Option Addr) (cap : Nat), e = .returned (.tuple #[.slice ad l.length cap, .int .i64 (rdP zs).1]) ∧ l.map keyS = (rdP zs).2 ∧ OwnS scells 2 w' w.heap.size 50 ad cap l ∧ (∀ x ∈ l, Own w' w.heap.size 5 .u8 x.ad x.cap x.bs) ∧ XOk l ∧ Kp [] w w'
theorem ToldX.no {zs : List Int} {w w' : World} (z : Int) (h : rdP zs = (z, [])) (k : Kp [] w w') : ToldX zs w (.returned (.tuple #[.slice none 0 0, .int .i64 z])) w' :=
  ⟨[], none, 0, by rw [h]; rfl, by rw [h]; rfl, OwnS.nil _ _ _ _ _, by simp, by intro x hx; simp at hx, k⟩

theorem nmE_zero {zs : List Int} {a : Nat} (h : nmE zs a = 0) : a < zs.length ∧ 1 ≤ nmN zs a ∧ nmN zs a ≤ 20 ∧ (nmS zs a).all letter = true ∧ a + 1 + nmN zs a ≤ zs.length ∧ nmX zs a = a + 1 + nmN zs a ∧ nmT zs a = strOfNums (nmS zs a) := by
  have h0 := h
  unfold nmE at h
  split at h
  · cases h
  · split at h
    · cases h
    · split at h
      · cases h
      · rename_i h3
        split at h
        · cases h
        · exact ⟨by omega, by omega, by omega, by simpa using h3, by omega, by rw [nmX, if_pos h0], by rw [nmT, if_pos h0]⟩
theorem unErr_zero {zs : List Int} {a : Nat} (h : unErr zs a = 0) : a ≤ zs.length ∧ unNext zs a = (a + (unN (unL zs a) + 8) : Nat) ∧ a + (unN (unL zs a) + 8) ≤ zs.length := by
  have h0 := h
  unfold unErr at h
  split at h
  · rename_i h1
    have hl := unL_length zs a (by omega)
    unfold unfE at h
    split at h
    · cases h
    · split at h
      · cases h
      · split at h
        · cases h
        · exact ⟨by omega, by rw [unNext, if_pos h0]; omega, by omega⟩
  · cases h
theorem infoSec : (Try.prog.info? 50).map (fun i => (i.zero, i.size, i.bytes)) = some (some (.agg #[.string ⟨#[]⟩, .slice none 0 0]), 2, 40) := by kernel_rfl
theorem Own.keepH {w w' : World} {base base2 : Nat} {ad ad2 : Option Addr} {cap cap2 : Nat} {zs : List Int} {l : List Sec} (hx : Own w base 5 .u8 ad cap zs) (hh : OwnS scells 2 w base2 50 ad2 cap2 l) (k : Kp (ob ad2 cap2) w w') : Own w' base 5 .u8 ad cap zs := by
  refine hx.keep k fun b hb hb2 => ?_
  rcases hx with ⟨h, -⟩ | ⟨g, cur, rfl, -, hg, -⟩
  · simp [ob, h] at hb
  rcases hh with ⟨h, -⟩ | ⟨g2, cur2, rfl, -, hg2, -⟩
  · simp [ob, h] at hb2
  unfold ob at hb hb2
  split at hb
  · simp at hb
  split at hb2
  · simp at hb2
  simp at hb hb2
  subst hb
  subst hb2
  rw [hg] at hg2
  injection hg2 with h1
  injection h1 with h2 h3
  exact absurd h3 (by decide)
theorem rdL_step {zs : List Int} {N k a : Nat} {acc : List (ByteArray × List Int)} (h : k < N) : rdL zs (N - k) a acc = if nmE zs a ≠ 0 then (nmE zs a, []) else if 0 ≤ fndK acc (nmT zs a) then (8, []) else if unErr zs (nmX zs a) ≠ 0 then (unErr zs (nmX zs a), []) else rdL zs (N - (k + 1)) (unNext zs (nmX zs a)).toNat (acc ++ [(nmT zs a, unX zs (nmX zs a))]) := by
  rw [show N - k = (N - (k + 1)) + 1 by omega, rdL]

theorem mark_ext : ∀ m : Nat, m ≤ 4 → (({ data := #[73, 83, 71, 76] } : ByteArray).extract 0 m) = strOfNums (mark4.take m)
  | 0, _ => rfl
  | 1, _ => rfl
  | 2, _ => rfl
  | 3, _ => rfl
  | 4, _ => rfl
  | m + 5, h => by omega
theorem exq {x : List Int} (hx : Bytes8 x) (m : Nat) (hm : m ≤ 4) (r : Bool) (hr : r = decide (x = mark4.take m)) : ((strOfNums x).toList == (({ data := #[73, 83, 71, 76] } : ByteArray).extract 0 m).toList) = r := by
  rw [mark_ext m hm]
  refine strq hx (fun z hz => ?_) r hr
  have := List.mem_of_mem_take hz
  simp [mark4] at this; omega

set_option maxHeartbeats 1600000 in
set_option maxRecDepth 100000 in
theorem xRead_any (ad : Option Addr) (cap n : Nat) (zs : List Int) (hn : n = zs.length) (w : World) (hr : Rd w .u8 ad cap zs) (hb : Bytes8 zs) (hl : n ≤ 1000000000) :
    Calls Try.prog 38 #[.slice ad n cap] w fun e w' => ToldX zs w e w' := by
  have HR := Lib.hid hr
  have HN := Lib.hid hn
  have HB := Lib.hid hb
  have hcap := hr.1
  rw [← hn] at hcap
  have hcap2 := hr.2.1
  clear hr hn hb
  by_cases h4 : n < 4
  · have h4i : (n : Int) < 4 := by omega
    have h4j : ¬ (4 : Int) < (n : Int) := by omega
    have h4k : ¬ (4 : Int) ≤ (n : Int) := by omega
    have hcv := fun nq => cvs (w.drewN nq) ad cap n zs (HR.out.keep0 (kdN w nq)) HN.out
    have hs : Hid (sub zs 0 4 = zs) := Lib.hid (by rw [sub_over _ _ _ (by rw [← HN.out]; omega), sub]; simp)
    by_cases hx : zs = mark4.take n
    · have hq := exq HB.out n (by omega) true (by rw [decide_eq_true hx])
      have HX := Lib.hid hx
      clear hx
      go_enter Try.func38, Try.ntmps38
      go_wp2_with fail
      go_quiet (fail)
      have kq := kdN w nq
      generalize w.drewN nq = w0 at *
      go_wp2_with fail
      go_ret2
      exact ToldX.no 4 (by rw [rdP, hs.out, if_neg (by rw [← HN.out]; simpa using HX.out), if_pos (by rw [← HN.out]; omega)]) kq
    · have hq := exq HB.out n (by omega) false (by rw [decide_eq_false hx])
      have HX := Lib.hid hx
      clear hx
      go_enter Try.func38, Try.ntmps38
      go_wp2_with fail
      go_quiet (fail)
      have kq := kdN w nq
      generalize w.drewN nq = w0 at *
      go_wp2_with fail
      go_ret2
      exact ToldX.no 5 (by rw [rdP, hs.out, if_pos (by rw [← HN.out]; exact HX.out)]) kq
  · by_cases h4b : n = 4
    · subst h4b
      have hcv := fun nq => cvs (w.drewN nq) ad cap 4 zs (HR.out.keep0 (kdN w nq)) HN.out
      have hs : Hid (sub zs 0 4 = zs) := Lib.hid (by rw [sub_over _ _ _ (by rw [← HN.out]; omega), sub]; simp)
      by_cases hx : zs = mark4.take 4
      · have hq := exq HB.out 4 (by omega) true (by rw [decide_eq_true hx])
        have HX := Lib.hid hx
        clear hx
        go_enter Try.func38, Try.ntmps38
        go_wp2_with fail
        go_quiet (fail)
        have kq := kdN w nq
        generalize w.drewN nq = w0 at *
        go_wp2_with fail
        go_ret2
        exact ToldX.no 4 (by rw [rdP, hs.out, if_neg (by rw [← HN.out]; simpa using HX.out), if_pos (by rw [← HN.out]; omega)]) kq
      · have hq := exq HB.out 4 (by omega) false (by rw [decide_eq_false hx])
        have HX := Lib.hid hx
        clear hx
        go_enter Try.func38, Try.ntmps38
        go_wp2_with fail
        go_quiet (fail)
        have kq := kdN w nq
        generalize w.drewN nq = w0 at *
        go_wp2_with fail
        go_ret2
        exact ToldX.no 5 (by rw [rdP, hs.out, if_pos (by rw [← HN.out]; exact HX.out)]) kq
    · have h4i : (4 : Int) < (n : Int) := by omega
      have h4k : ¬ (n : Int) < 4 := by omega
      have hrd : ∀ nq, Rd (w.drewN nq) .u8 ad cap (sub zs 0 4) := fun nq => (HR.out.keep0 (kdN w nq)).head (by rw [← HN.out]; omega)
      have hcv := fun nq => cvs (w.drewN nq) ad cap 4 (sub zs 0 4) (hrd nq) (by rw [sub_length _ _ _ (by rw [← HN.out]; omega)])
      have ht : Hid (mark4.take zs.length = mark4) := Lib.hid (List.take_of_length_le (by rw [← HN.out]; simp [mark4]; omega))
      clear hrd
      by_cases hx : sub zs 0 4 = mark4
      · have hq := exq (HB.out.sub 0 4) 4 (by omega) true (by rw [decide_eq_true (show sub zs 0 4 = mark4.take 4 from hx)])
        have HX := Lib.hid hx
        clear hx
        by_cases h6 : (n : Int) < 6
        · go_enter Try.func38, Try.ntmps38
          go_wp2_with fail
          go_quiet (fail)
          have kq := kdN w nq
          generalize w.drewN nq = w0 at *
          go_wp2_with fail
          go_ret2
          exact ToldX.no 4 (by rw [rdP, ht.out, if_neg (by simpa using HX.out), if_pos (by rw [← HN.out]; omega)]) kq
        · have h6z : 6 ≤ zs.length := by rw [← HN.out]; omega
          obtain ⟨b, off, e1, c4⟩ := HR.out.2.2 4 (by omega)
          obtain ⟨b', off', e2, c5⟩ := HR.out.2.2 5 (by omega)
          subst e1
          cases e2
          obtain ⟨m4, q4, b4⟩ := nth_b8 HB.out 4 (by omega)
          obtain ⟨m5, q5, b5⟩ := nth_b8 HB.out 5 (by omega)
          rw [q4] at c4
          rw [q5] at c5
          obtain ⟨N, hN⟩ : ∃ N, N = m4 + 256 * m5 := ⟨_, rfl⟩
          have HHD : Hid (hdN zs = N) := Lib.hid (by rw [hdN, q4, q5, hN]; omega)
          have hNv : (m4 : Int) + (m5 : Int) * 256 = (N : Int) := by omega
          have HN2 : N ≤ 65535 := by omega
          clear q4 q5 hN h6z
          go_enter Try.func38, Try.ntmps38
          go_wp2_with fail
          go_quiet (fail)
          have kq := kdN w nq
          generalize w.drewN nq = w0 at *
          have d4 := kq.cell c4 (by simp)
          have d5 := kq.cell c5 (by simp)
          have HKQ := Lib.hid kq
          clear c4 c5 kq hq hcv
          go_wp2_with fail
          go_quiet (fail)
          have HK1 := Lib.hid (HKQ.out.tr (kdN w0 nq))
          generalize w0.drewN nq = w1 at *
          clear d4 d5 hNv
          by_cases hN : (2000 : Int) < (N : Int)
          · go_wp2_with fail
            go_ret2
            exact ToldX.no 3 (by rw [rdP, ht.out, if_neg (by simpa using HX.out), if_neg (by rw [← HN.out]; omega), HHD.out, if_pos (by omega)]) HK1.out
          · have HRP : Hid (rdP zs = rdL zs N 6 []) := Lib.hid (by rw [rdP, ht.out, if_neg (by simpa using HX.out), if_neg (by rw [← HN.out]; omega), HHD.out, if_neg (by omega)])
            go_wp2_with fail
            go_loopw [6, 7, 40] (fun va vl vi wr => ∃ (k a : Nat) (l : List Sec) (ad' : Option Addr) (cap' : Nat), k ≤ N ∧ vi = .int .i64 k ∧ va = .int .i64 a ∧ vl = .slice ad' k cap' ∧ a ≤ n ∧ Hid (k = l.length) ∧ Hid (rdP zs = rdL zs (N - k) a (l.map keyS)) ∧ Hid (OwnS scells 2 wr w.heap.size 50 ad' cap' l) ∧ Hid (∀ x ∈ l, Own wr w.heap.size 5 .u8 x.ad x.cap x.bs) ∧ Hid (XOk l) ∧ Hid (Kp [] w wr)) (fun _ _ vi _ => N - (intOf vi).toNat)
            case atStart => exact ⟨0, 6, [], none, 0, Nat.zero_le _, rfl, rfl, rfl, by omega, Lib.hid rfl, HRP, Lib.hid (OwnS.nil _ _ _ _ _), Lib.hid (by simp), Lib.hid (by intro x hx; simp at hx), HK1⟩
            case round =>
              obtain ⟨k, a, l, ad', cap', hk, rfl, rfl, rfl, ha, HL, HRD, HO, HOB, HXO, HK⟩ := hrel
              have hwr := HK.out.size
              by_cases hlt : k < N
              · have hstep := rdL_step (zs := zs) (a := a) (acc := l.map keyS) hlt
                rw [← HRD.out] at hstep
                obtain ⟨z, hz⟩ : ∃ z, z = nmE zs a := ⟨_, rfl⟩
                have HZ := Lib.hid hz
                have HST := Lib.hid hstep
                clear hz hstep
                by_cases hz0 : z = 0
                · subst hz0
                  obtain ⟨g1, g2, g3, g4, g5, g6, g7⟩ := nmE_zero HZ.out.symm
                  rw [← HN.out] at g5
                  obtain ⟨c, hc⟩ : ∃ c, c = nmX zs a := ⟨_, rfl⟩
                  have HC := Lib.hid hc
                  have hcn : c ≤ n := by rw [hc, g6]; exact g5
                  obtain ⟨s, hs⟩ : ∃ s, s = nmT zs a := ⟨_, rfl⟩
                  have HS := Lib.hid hs
                  have hsz : s.size ≤ 20 := by
                    rw [hs, g7, strOfNums_size, nmS]
                    have : (sub zs (a + 1) (a + 1 + nmN zs a)).length ≤ nmN zs a := by simp [sub]; omega
                    omega
                  clear g1 g2 g3 g4 g5 g6 g7 hc hs
                  obtain ⟨f, hf⟩ : ∃ f, f = fndX l s := ⟨_, rfl⟩
                  have HF := Lib.hid hf
                  clear hf
                  go_wp2_with fail
                  refine (xname_any (some ⟨b, off, none⟩) cap n a zs HN.out _ (HR.out.keep0 HK.out) HB.out hl ha).mono ?_
                  rintro e w2 ⟨rfl, kp2⟩
                  rw [← HZ.out, ← HC.out, ← HS.out]
                  have HK2 := Lib.hid kp2
                  clear kp2
                  by_cases hf0 : (0 : Int) ≤ f
                  · go_wp2_with fail
                    refine (xFind_any ad' cap' k l s HL.out _ ((HO.out.keep0 HK2.out).rd slies)).mono ?_
                    rintro e w3 ⟨rfl, kp3⟩
                    rw [← HF.out]
                    have HK3 := Lib.hid kp3
                    clear kp3
                    go_wp2_with fail
                    go_ret2
                    exact ToldX.no 8 (by rw [HST.out, if_neg (by rw [← HZ.out]; simp), ← HS.out, ← fndK_eq, ← HF.out, if_pos hf0]) (HK.out.tr (HK2.out.tr HK3.out))
                  · have HF0 := Lib.hid hf0
                    go_wp2_with fail
                    refine (xFind_any ad' cap' k l s HL.out _ ((HO.out.keep0 HK2.out).rd slies)).mono ?_
                    rintro e w3 ⟨rfl, kp3⟩
                    rw [← HF.out]
                    have HK3 := Lib.hid (HK.out.tr (HK2.out.tr kp3))
                    have HKr := Lib.hid (HK2.out.tr kp3)
                    clear kp3
                    go_wp2_with fail
                    refine (kUnframe_any (some ⟨b, off, none⟩) cap n (c : Int) zs HN.out _ (HR.out.keep0 HK3.out) HB.out hl).mono ?_
                    rintro e w4 ⟨ad4, cap4, rfl, ho4, kp4⟩
                    have HO4 := Lib.hid (ho4.mono HK3.out.size)
                    have HK4 := Lib.hid (HK3.out.tr kp4)
                    have HKs := Lib.hid (HKr.out.tr kp4)
                    clear ho4 kp4
                    obtain ⟨u, hu⟩ : ∃ u, u = unErr zs (c : Int) := ⟨_, rfl⟩
                    rw [← hu]
                    have HU := Lib.hid hu
                    clear hu
                    by_cases hu0 : u = 0
                    · subst hu0
                      obtain ⟨v1, v2, v3⟩ := unErr_zero HU.out.symm
                      obtain ⟨c2, hc2⟩ : ∃ c2, c2 = c + (unN (unL zs c) + 8) := ⟨_, rfl⟩
                      rw [← hc2] at v2 v3
                      rw [← HN.out] at v3
                      rw [v2]
                      have HC2 := Lib.hid v2
                      obtain ⟨xb, hxb⟩ : ∃ xb, xb = unX zs (c : Int) := ⟨_, rfl⟩
                      have hbl := unX_length zs (c : Int)
                      have hb8 := unX_bytes HB.out (c : Int)
                      rw [← hxb] at hbl hb8
                      rw [← hxb]
                      have ho5 := HO4.out
                      rw [← hxb] at ho5
                      have HO5 := Lib.hid ho5
                      have HXB := Lib.hid hxb
                      have HB8 := Lib.hid hb8
                      have hbl2 : xb.length ≤ 9223372036854775807 := by rw [← HN.out] at hbl; omega
                      have hs4 := HK4.out.size
                      clear v1 v2 hc2 hxb hb8 ho5 hbl
                      go_wp2_with (at_builtin; refine wpList_appS slies rfl (.tmp 68) (.tmp 72) 47 47 rfl w.heap.size 50 (.agg #[.string ⟨#[]⟩, .slice none 0 0]) 40 Try.underlying47 infoSec rfl ad' cap' k l HL.out [⟨s, ad4, cap4, xb⟩] _ 1 rfl rfl rfl ((HO.out.keep0 HKs.out).alloc _) (src_oneS slies Try.underlying47 (heap_alloc_at rfl)) (by omega) (by omega) (by simp; omega) ?_; intro ad6 cap6 w6 ho6 kp6 hob6 _; have HOh := Lib.hid ((HO.out.keep0 HKs.out).alloc (.cells (scells ⟨s, ad4, cap4, xb⟩).toArray 50)); have HKp := Lib.hid kp6; have HO6 := Lib.hid ho6; have HK6 := Lib.hid ((HK4.out.alloc _).trans kp6 (U := []) (by simp) (fun y hy => .inr (HO.out.ob_ge y hy).1)); clear ho6 kp6 hob6)
                      go_roundw
                      case rel =>
                        refine ⟨k + 1, c2, l ++ [⟨s, ad4, cap4, xb⟩], ad6, cap6, hlt, by go_num, rfl, rfl, v3, Lib.hid (by rw [List.length_append, ← HL.out]; rfl), Lib.hid ?_, HO6, Lib.hid ?_, Lib.hid ?_, HK6⟩
                        · rw [HST.out, if_neg (by rw [← HZ.out]; simp), ← HS.out, ← fndK_eq, ← HF.out, if_neg (by have := HF0.out; omega), ← HC.out, ← HU.out, if_neg (by simp), HC2.out, Int.toNat_natCast, ← HXB.out, List.map_append]; rfl
                        · intro x hx
                          rcases List.mem_append.1 hx with hx | hx
                          · exact (((HOB.out x hx).keep0 HKs.out).alloc _).keepH HOh.out HKp.out
                          · simp at hx; subst hx
                            exact (HO5.out.alloc _).keepH HOh.out HKp.out
                        · intro x hx
                          rcases List.mem_append.1 hx with hx | hx
                          · exact HXO.out x hx
                          · simp at hx; subst hx
                            exact ⟨HB8.out, by unfold maxLen; show s.size ≤ _; omega, hbl2⟩
                      case measure => simp [intOf]; omega
                    · have huq : (u != 0) = true := by simpa using hu0
                      have HU0 := Lib.hid hu0
                      clear hu0
                      go_wp2_with fail
                      go_ret2
                      exact ToldX.no u (by rw [HST.out, if_neg (by rw [← HZ.out]; simp), ← HS.out, ← fndK_eq, ← HF.out, if_neg (by have := HF0.out; omega), ← HC.out, ← HU.out, if_pos HU0.out]) HK4.out
                · have hzq : (z != 0) = true := by simpa using hz0
                  have HZ0 := Lib.hid hz0
                  clear hz0
                  go_wp2_with fail
                  refine (xname_any (some ⟨b, off, none⟩) cap n a zs HN.out _ (HR.out.keep0 HK.out) HB.out hl ha).mono ?_
                  rintro e w2 ⟨rfl, kp2⟩
                  rw [← HZ.out]
                  have HK2 := Lib.hid (HK.out.tr kp2)
                  clear kp2
                  go_wp2_with fail
                  go_ret2
                  exact ToldX.no z (by rw [HST.out, ← HZ.out, if_pos HZ0.out]) HK2.out
              · obtain rfl : k = N := by omega
                by_cases hlast : a < n
                · go_wp2_with fail
                  go_ret2
                  exact ToldX.no 5 (by rw [HRD.out, Nat.sub_self, rdL, if_pos (by rw [← HN.out]; exact hlast)]) HK.out
                · have hlast2 : ¬ (a : Int) < (n : Int) := by omega
                  have he : Hid (rdP zs = (0, l.map keyS)) := Lib.hid (by rw [HRD.out, Nat.sub_self, rdL, if_neg (by rw [← HN.out]; exact hlast)])
                  go_wp2_with fail
                  go_ret2
                  exact ⟨l, ad', cap', by rw [he.out, ← HL.out]; rfl, by rw [he.out], HO.out, HOB.out, HXO.out, HK.out⟩
      · have hq := exq (HB.out.sub 0 4) 4 (by omega) false (by rw [decide_eq_false (show ¬ sub zs 0 4 = mark4.take 4 from hx)])
        have HX := Lib.hid hx
        clear hx
        go_enter Try.func38, Try.ntmps38
        go_wp2_with fail
        go_quiet (fail)
        have kq := kdN w nq
        generalize w.drewN nq = w0 at *
        go_wp2_with fail
        go_ret2
        exact ToldX.no 5 (by rw [rdP, ht.out, if_pos HX.out]) kq
end Go.Proofs.Ytegnobdablbahaa
