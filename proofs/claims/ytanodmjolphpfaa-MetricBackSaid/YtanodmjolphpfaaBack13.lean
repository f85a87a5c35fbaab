/-
  The walk of MetricBack: it returns true.
-/
import Derived.Test.YtanodmjolphpfaaReads13
namespace Go.Proofs.Ytanodmjolphpfaa
open Go.RowKit
set_option linter.unusedSimpArgs false
set_option linter.unusedVariables false

theorem leN_le (s : Nat) : ∀ n, n < 256 ^ s → leN (le n s) = n := by
  induction s with
  | zero => intro n hn; simp at hn; subst hn; rfl
  | succ s ih =>
    intro n hn
    rw [Nat.pow_succ] at hn
    simp only [le, leN, ih (n / 256) (by omega), Int.toNat_natCast]
    omega
theorem wrap64_u64 (z : Int) (h : -9223372036854775808 ≤ z ∧ z ≤ 9223372036854775807) : wrap64 (u64 z) = z := by unfold wrap64 u64; omega
theorem sub_left (l m : List Int) (a b : Nat) (hb : b ≤ l.length) : sub (l ++ m) a b = sub l a b := by
  simp only [sub]
  by_cases ha : a ≤ l.length
  · rw [List.drop_append_of_le_length ha, List.take_append_of_le_length (by rw [List.length_drop]; omega)]
  · rw [show b - a = 0 by omega]; simp
theorem sub_right (l m : List Int) (a b : Nat) (ha : l.length ≤ a) : sub (l ++ m) a b = sub m (a - l.length) (b - l.length) := by
  simp only [sub]
  rw [List.drop_append, List.drop_eq_nil_of_le ha, List.nil_append, show b - l.length - (a - l.length) = b - a by omega]
theorem sub_u64s (l : List Int) : ∀ i, i < l.length → sub (u64s l) (8 * i) (8 * i + 8) = le (u64 (nth l i)) 8 := by
  induction l with
  | nil => intro i hi; simp at hi
  | cons z l ih =>
    intro i hi
    have e : u64s (z :: l) = le (u64 z) 8 ++ u64s l := by simp [u64s]
    rw [e]
    cases i with
    | zero =>
      rw [sub_left _ _ _ _ (by rw [le_length]; omega)]
      simp only [sub, nth, Nat.mul_zero, List.drop_zero, Nat.zero_add, Nat.sub_zero]
      exact List.take_of_length_le (by rw [le_length]; omega)
    | succ i =>
      rw [sub_right _ _ _ _ (by rw [le_length]; omega), le_length, show 8 * (i + 1) - 8 = 8 * i by omega, show 8 * (i + 1) + 8 - 8 = 8 * i + 8 by omega, ih i (by simpa using hi)]
      simp [nth]
theorem rdNums_col (l : List Int) (h : I64s l) (m : List Int) : rdNums (colBytes l ++ m) l.length = l := by
  apply List.ext_getElem (by rw [rdNums_length])
  intro i h1 h2
  simp only [rdNums, List.getElem_map, List.getElem_range, rdNum]
  rw [sub_left _ _ _ _ (by rw [colBytes_length]; omega), colBytes, sub_right _ _ _ _ (by rw [colHead_length]; omega), colHead_length, show 20 + 8 * i - 20 = 8 * i by omega, show 20 + 8 * i + 8 - 20 = 8 * i + 8 by omega, sub_u64s l i h2,
    leN_le 8 _ (Nat.lt_of_lt_of_le (u64_lt _) (by decide)), wrap64_u64 _ (h _ (nth_mem h2))]
  simp [nth, h2]
theorem rdCnt_head (l bs : List Int) (hl : l.length ≤ 300) (h : sub bs 0 20 = colHead l) : rdCnt bs = l.length := by
  have : sub bs 0 4 = le l.length 4 := by
    have e : sub bs 0 4 = sub (sub bs 0 20) 0 4 := by simp [sub, List.take_take]
    rw [e, h, colHead, List.append_assoc, sub_left _ _ _ _ (by rw [le_length]; omega)]
    simp only [sub, List.drop_zero, Nat.sub_zero]
    exact List.take_of_length_le (by rw [le_length]; omega)
  rw [rdCnt, this, leN_le 4 _ (by omega)]
theorem err_same (l : List Int) (hl : l.length ≤ 300) (h : I64s l) (rows : Int) : rdErr (colBytes l) rows = if (l.length : Int) = rows then 0 else 5 := by
  have hc := rdCnt_head l (colBytes l) hl (sub_head l)
  have hn := rdNums_col l h []
  rw [List.append_nil] at hn
  have hb := colBytes_length l
  unfold rdErr
  rw [hc, if_neg (by omega), if_neg (by omega), if_neg (by omega)]
  by_cases hr : (l.length : Int) = rows
  · rw [if_neg (by simp [hr]; omega), hn, sub_head, if_pos rfl, if_pos hr]
  · rw [if_pos (.inr hr), if_neg hr]
theorem err_more (l : List Int) (hl : l.length ≤ 300) (x : Int) : rdErr (colBytes l ++ [x]) l.length = 5 := by
  have hb := colBytes_length l
  have hc := rdCnt_head l (colBytes l ++ [x]) hl (by rw [sub_left _ _ _ _ (by omega), sub_head])
  unfold rdErr
  rw [hc, List.length_append, hb, if_neg (by simp; omega), if_neg (by omega), if_neg (by simp), if_pos (.inl (by simp))]
theorem err_less (l : List Int) (hl : l.length ≤ 300) (k : Nat) (hk : k = (colBytes l).length - 1) : rdErr (sub (colBytes l) 0 k) l.length = 4 := by
  have hb := colBytes_length l
  have hs : (sub (colBytes l) 0 k).length = k := by rw [sub_length _ _ _ (by omega)]; omega
  have h4 : sub (sub (colBytes l) 0 k) 0 4 = sub (colBytes l) 0 4 := by
    simp only [sub, List.drop_zero, Nat.sub_zero, List.take_take]; congr 1; omega
  have hc : rdCnt (sub (colBytes l) 0 k) = l.length := by
    rw [rdCnt, h4, ← rdCnt]; exact rdCnt_head l _ hl (sub_head l)
  unfold rdErr
  rw [hc, hs, if_neg (by omega), if_neg (by omega), if_pos (by omega)]

theorem colBytes_bytes (zs : List Int) : Bytes8 (colBytes zs) := bytes8_append (colHead_bytes zs) (u64s_bytes zs)

set_option maxHeartbeats 3000000 in
theorem back_walk (a0 : Option Addr) (cap0 : Nat) (l : List Int) (rows : Int) (w : World) (r0 : Rd w .i64 a0 cap0 l) (b0 : I64s l) :
    Calls Try.prog 12 #[.slice a0 l.length cap0, .int .i64 rows] w fun e w' => e = .returned (.bool true) ∧ Kp [] w w' := by
  obtain ⟨n, hn⟩ : ∃ n, n = l.length := ⟨_, rfl⟩
  rw [← hn]
  have HN := Lib.hid hn
  have HR := Lib.hid r0
  have HI := Lib.hid b0
  clear hn r0 b0
  by_cases h1 : 300 < n
  · go_enter Try.func12, Try.ntmps12
    go_wp2_with (go_at_call 13; refine (known13 _).mono ?_; rintro e w' ⟨rfl, kp⟩)
    go_ret
    exact ⟨rfl, kp⟩
  have hl : l.length ≤ 300 := by have := HN.out; omega
  have E1 : Hid (rdErr (colBytes l) n = 0) := Lib.hid (by rw [err_same l hl HI.out n, if_pos (by rw [HN.out])])
  have E2 := Lib.hid (err_same l hl HI.out rows)
  have E3 := Lib.hid (err_more l hl 0)
  have E4 := Lib.hid (err_less l hl (19 + 8 * n) (by rw [colBytes_length, HN.out]; omega))
  have CL := Lib.hid (colBytes_length l)
  have EN := Lib.hid (rdNums_col l HI.out [])
  have EC := Lib.hid (rdCnt_head l (colBytes l) hl (sub_head l))
  rw [← HN.out] at E2 E3 E4 CL EC EN
  go_enter Try.func12, Try.ntmps12
  go_wp2_with fail
  refine (of_col a0 cap0 l n HN.out w HR.out (by omega)).mono ?_
  rintro e w1 ⟨c, rfl, hcs, hc1, kp1⟩
  go_wp2_with fail
  refine (bytes_n c l n HN.out w1 hc1).mono ?_
  rintro e w2 ⟨ad, cap, rfl, ho, kp2⟩
  have kw2 := kp1.tr kp2
  have HO := Lib.hid ho
  clear hc1 kp1 kp2 ho hl
  go_wp2_with fail
  refine (mread_any ad cap (20 + 8 * n) (colBytes l) CL.out.symm n w2 HO.out.rd (colBytes_bytes l) (by omega)).mono ?_
  rintro e w3 ⟨v3, rfl, kp3, hv3, -⟩
  rw [E1.out] at hv3 ⊢
  obtain ⟨d, rfl, hds, hd⟩ := hv3 rfl
  rw [EC.out] at hd
  have hrn : rdNums (colBytes l) n = l := by have := EN.out; rwa [List.append_nil] at this
  rw [hrn] at hd
  have HD := Lib.hid hd
  have kw3 := kw2.tr kp3
  clear hv3 hrn hd
  go_wp2_with fail
  refine (len_any d l w3 HD.out).mono ?_
  rw [← HN.out]
  rintro e w' ⟨rfl, rfl⟩
  go_wp2_with fail
  refine (some_ok d l 0 n w3 HD.out (Nat.zero_le _) (by rw [HN.out]; exact Nat.le_refl _)).mono ?_
  rintro e w4 ⟨q, rfl, hq0, hq, kp4⟩
  rw [show sub l 0 n = l by rw [HN.out]; simp [sub]] at hq
  rw [Nat.sub_zero]
  have kw4 := kw3.tr kp4
  have hall : Own w4 w.heap.size 2 .i64 (some ⟨q, 0, none⟩) n l := by
    have := Own.row (k := .i64) (zs := l) (base := w.heap.size) (e := 2) (show w.heap.size ≤ q by have := kw3.size; omega) hq (by have := HN.out; omega)
    rwa [← HN.out] at this
  have HALL := Lib.hid hall
  have ho4 := (HO.out.keep0 kp3).keep0 kp4
  have HO4 := Lib.hid ho4
  have z1 := kw2.size
  clear hall hq kp3 kp4 kw3 ho4
  go_wp2_with fail
  obtain ⟨ec, hec⟩ : ∃ ec, ec = rdErr (colBytes l) rows := ⟨_, rfl⟩
  have HEC := Lib.hid hec
  refine (mread_any ad cap (20 + 8 * n) (colBytes l) CL.out.symm rows w4 HO4.out.rd (colBytes_bytes l) (by omega)).mono ?_
  rintro e w5 ⟨v5, rfl, kp5, -, -⟩
  rw [← hec]
  have kw5 := kw4.tr kp5
  have ho5 := HO4.out.keep0 kp5
  have HO5 := Lib.hid ho5
  have z5 := kw5.size
  have hcap := HO5.out.rd.1
  have hcap2 := HO5.out.rd.2.1
  have hc9 : ¬ ((cap : Int) < (20 + 8 * (n : Int) - 1)) := by have := CL.out; omega
  have ha0 : ∀ x : Addr, x.add 0 = x := fun _ => rfl
  have K45 := Lib.hid kp5
  clear ho5 kp5 hec
  go_wp2_with (first
    | (at_builtin; refine wpList_app rfl (.tmp 65) (.tmp 66) 40 40 rfl w.heap.size 5 .u8 1 Try.underlying40 infoU8 (some ⟨w5.heap.size, 0, none⟩) 0 0 [] rfl (colBytes l) _ (20 + 8 * n) CL.out.symm rfl rfl (.inl ⟨rfl, rfl⟩) (by rw [← CL.out]; exact src_rd (HO5.out.rd.alloc _) Try.underlying40) (by omega) (by omega) (by simp; omega) ?_; intro ad6 cap6 w6 ho6 kp6 hob6 _)
    | (at_builtin; refine wpList_app rfl (.tmp 67) (.tmp 68) 40 40 rfl w.heap.size 5 .u8 1 Try.underlying40 infoU8 ad6 cap6 (20 + 8 * n) ([] ++ colBytes l) (by rw [List.nil_append]; exact CL.out.symm) [0] _ 1 rfl rfl rfl (ho6.alloc _) (src_one Try.underlying40 (World.cell?_alloc_at _ _ _ _ rfl)) (by omega) (by omega) (by have := kp6.size; simp at this; simp; omega) ?_; intro ad7 cap7 w7 ho7 kp7 hob7 _))

  rw [List.nil_append] at ho7
  have k46 : Kp [] w4 w6 := (K45.out.alloc _).trans kp6 (by simp) (by simp [ob])
  have k47 : Kp [] w4 w7 := (k46.alloc _).trans kp7 (by simp) (fun x hx => by
    have q0 := K45.out.size
    rcases hob6 x hx with h | h
    · simp [ob] at h
    · rw [World.size_alloc] at h; exact .inr (by omega))
  have kw7 : Kp [] w w7 := kw4.tr k47
  have HO7 := Lib.hid ho7
  have HO57 := Lib.hid (HO4.out.keep0 k47)
  have HALL7 := Lib.hid (HALL.out.keep0 k47)
  have z7 := kw7.size
  clear ho6 ho7 kp6 kp7 hob6 hob7 kw5 k46 k47 kw4
  refine (mread_any ad7 cap7 (20 + 8 * n + 1) (colBytes l ++ [0]) (by rw [List.length_append, CL.out]; rfl) n w7 HO7.out.rd (bytes8_append (colBytes_bytes l) (by intro z hz; simp at hz; subst hz; omega)) (by omega)).mono ?_
  rintro e w8 ⟨v8, rfl, kp8, -, -⟩
  rw [E3.out]
  have kw8 := kw7.tr kp8
  have HO8 := Lib.hid (HO57.out.keep0 kp8)
  have HALL8 := Lib.hid (HALL7.out.keep0 kp8)
  clear kp8 kw7
  go_wp2_with fail
  refine (mread_any ad cap (19 + 8 * n) (sub (colBytes l) 0 (19 + 8 * n)) (by rw [sub_length _ _ _ (by rw [CL.out]; omega)]; omega) n w8 (HO8.out.rd.head (by rw [CL.out]; omega)) ((colBytes_bytes l).sub _ _) (by omega)).mono ?_
  rintro e w9 ⟨v9, rfl, kp9, -, -⟩
  rw [E4.out]
  have kw9 := kw8.tr kp9
  have HRL := Lib.hid (HR.out.keep0 kw9)
  have HALL9 := Lib.hid (HALL8.out.keep0 kp9)
  clear kp9 kw8
  by_cases hrw : (n : Int) = rows
  · have hec0 : ec = 0 := by rw [HEC.out, E2.out, if_pos hrw]
    subst hrw
    subst hec0
    go_wp2_with (first
      | (go_at_call 17; refine (r13same_yes (some ⟨q, 0, none⟩) a0 n cap0 l n HN.out _ HALL9.out.rd HRL.out).mono ?_; rintro e w10 ⟨rfl, kp10⟩)
      | (go_at_call 13; refine (known13 _).mono ?_; rintro e w11 ⟨rfl, kp11⟩))
    go_ret
    exact ⟨rfl, (kw9.tr kp10).tr kp11⟩
  · have hec0 : ec = 5 := by rw [HEC.out, E2.out, if_neg hrw]
    have hr2 : (rows == (n : Int)) = false := by rw [beq_eq_false_iff_ne]; exact fun h => hrw h.symm
    subst hec0
    clear hrw
    go_wp2_with (first
      | (go_at_call 17; refine (r13same_yes (some ⟨q, 0, none⟩) a0 n cap0 l n HN.out _ HALL9.out.rd HRL.out).mono ?_; rintro e w10 ⟨rfl, kp10⟩)
      | (go_at_call 13; refine (known13 _).mono ?_; rintro e w11 ⟨rfl, kp11⟩))
    go_ret
    exact ⟨rfl, (kw9.tr kp10).tr kp11⟩
end Go.Proofs.Ytanodmjolphpfaa
