/-
  The document's Unframe.
-/
import Derived.Test.YtegnobdablbahaaCrc3
namespace Go.Proofs.Ytegnobdablbahaa
open Go.RowKit
set_option linter.unusedSimpArgs false
set_option linter.unusedVariables false

theorem fr_iff {l : List Int} (hb : Bytes8 l) (h : 4 + unN l + 4 ≤ l.length) : frB (sub l 4 (4 + unN l)) = sub l 0 (4 + unN l + 4) ↔ leN (sub l (4 + unN l) (4 + unN l + 4)) = crc (sub l 4 (4 + unN l)) := by
  have e1 : le (unN l) 4 = sub l 0 4 := by
    have := le_leN (sub l 0 4) (hb.sub 0 4)
    rwa [sub_length _ _ _ (by omega)] at this
  have e2 : (sub l 4 (4 + unN l)).length = unN l := by rw [sub_length _ _ _ (by omega)]; omega
  have e3 : sub l 0 (4 + unN l + 4) = sub l 0 4 ++ sub l 4 (4 + unN l) ++ sub l (4 + unN l) (4 + unN l + 4) := by
    rw [sub_split l 0 (4 + unN l) (4 + unN l + 4) (by omega) (by omega), sub_split l 0 4 (4 + unN l) (by omega) (by omega)]
  rw [frB, e2, e1, e3, List.append_cancel_left_eq]
  have e4 := le_leN (sub l (4 + unN l) (4 + unN l + 4)) (hb.sub _ _)
  rw [sub_length _ _ _ h, show 4 + unN l + 4 - (4 + unN l) = 4 by omega] at e4
  constructor
  · intro hh
    have := congrArg leN hh
    rw [leN_le 4 _ (crc_lt _)] at this
    exact this.symm
  · intro hh; rw [← hh]; exact e4
theorem leN4 {l : List Int} (h : 4 ≤ l.length) (hb : Bytes8 l) : ((unN l : Nat) : Int) = nth l 0 + 256 * nth l 1 + 65536 * nth l 2 + 16777216 * nth l 3 := by
  match l, h with
  | a :: b :: c :: d :: r, _ =>
    have h0 := hb a (by simp)
    have h1 := hb b (by simp)
    have h2 := hb c (by simp)
    have h3 := hb d (by simp)
    simp [unN, sub, leN, nth]
    omega

set_option maxRecDepth 100000 in
set_option maxHeartbeats 800000 in
theorem r03Unframe_any (ad : Option Addr) (cap n : Nat) (at' : Int) (zs : List Int) (hn : n = zs.length) (w : World) (hr : Rd w .u8 ad cap zs) (hb : Bytes8 zs) (hl : n ≤ 1000000000) :
    Calls Try.prog 64 #[.slice ad n cap, .int .i64 at'] w fun e w' => ∃ ad' cap', e = .returned (.tuple #[.slice ad' (unX zs at').length cap', .int .i64 (unNext zs at'), .int .i64 (unErr zs at')]) ∧ Own w' w.heap.size 5 .u8 ad' cap' (unX zs at') ∧ Kp [] w w' := by
  have HR := Lib.hid hr
  have HN := Lib.hid hn
  clear hr hn
  by_cases h1 : at' < 0
  · have he : unErr zs at' = 2 := by unfold unErr; rw [if_neg (by omega)]
    rw [unX, unNext, he]
    go_enter Try.func64, Try.ntmps64
    go_wp2_with fail
    go_ret3
    exact ⟨none, 0, rfl, Own.nil _ _ _ _, Kp.refl _ _⟩
  · by_cases h2 : (n : Int) < at'
    · have he : unErr zs at' = 2 := by unfold unErr; rw [if_neg (by have := HN.out; omega)]
      rw [unX, unNext, he]
      go_enter Try.func64, Try.ntmps64
      go_wp2_with fail
      go_ret3
      exact ⟨none, 0, rfl, Own.nil _ _ _ _, Kp.refl _ _⟩
    · obtain ⟨a, rfl⟩ := Int.eq_ofNat_of_zero_le (show 0 ≤ at' by omega)
      obtain ⟨ad1, cap1, hsl, hr1⟩ := tail_rd w ad cap n a zs HN.out (by omega) HR.out
      rw [show sub zs a n = unL zs a by rw [unL, ← HN.out]; rfl] at hr1
      have hll := unL_length zs a (by have := HN.out; omega)
      have he : unErr zs a = unfE (unL zs a) := by unfold unErr; rw [if_pos (by have := HN.out; omega)]
      obtain ⟨l, hl'⟩ : ∃ l, l = unL zs a := ⟨_, rfl⟩
      rw [← hl'] at hll he hr1
      rw [← HN.out] at hll
      have hbl : Bytes8 l := by rw [hl']; exact hb.sub _ _
      obtain ⟨m, hm⟩ : ∃ m, m = n - a := ⟨_, rfl⟩
      rw [← hm] at hll hsl
      have hmn : m ≤ n := by omega
      have hma : m + a = n := by omega
      have HL := Lib.hid hl'
      have HE := Lib.hid he
      have HR1 := Lib.hid hr1
      have HLL := Lib.hid hll
      clear hl' he hr1 hll hm
      by_cases h3 : m < 4
      · have h3i : (m : Int) < 4 := by omega
        have he3 : unErr zs a = 4 := by rw [HE.out, unfE, if_pos (by rw [HLL.out]; exact h3)]
        have HE3 := Lib.hid he3
        clear h3 he3
        go_enter Try.func64, Try.ntmps64
        go_wp2_with fail
        go_ret3
        rw [unX, unNext, HE3.out]
        exact ⟨none, 0, rfl, Own.nil _ _ _ _, Kp.refl _ _⟩
      · have h3i : ¬ (m : Int) < 4 := by omega
        have hsum := leN4 (l := l) (by rw [HLL.out]; omega) hbl
        have b0 := hbl _ (nth_mem (zs := l) (k := 0) (by rw [HLL.out]; omega))
        have b1 := hbl _ (nth_mem (zs := l) (k := 1) (by rw [HLL.out]; omega))
        have b2 := hbl _ (nth_mem (zs := l) (k := 2) (by rw [HLL.out]; omega))
        have b3 := hbl _ (nth_mem (zs := l) (k := 3) (by rw [HLL.out]; omega))
        obtain ⟨b, off, rfl, c0⟩ := HR1.out.2.2 0 (by rw [HLL.out]; omega)
        have cc : ∀ i, i < 4 → w.cell? ⟨b, off + i, none⟩ = some (.int .u8 (nth l i)) := fun i hi => by
          obtain ⟨b', off', q1, q2⟩ := HR1.out.2.2 i (by rw [HLL.out]; omega)
          cases q1; exact q2
        have c1 := cc 1 (by omega)
        have c2 := cc 2 (by omega)
        have c3 := cc 3 (by omega)
        obtain ⟨N, hN⟩ : ∃ N, N = unN l := ⟨_, rfl⟩
        rw [← hN] at hsum
        have HNN := Lib.hid hN
        have hcapm := HR1.out.1
        rw [HLL.out] at hcapm
        generalize nth l 0 = z0 at *
        generalize nth l 1 = z1 at *
        generalize nth l 2 = z2 at *
        generalize nth l 3 = z3 at *
        clear cc h3 hN
        replace hsum := hsum.symm
        rw [Nat.add_zero] at c0
        go_enter Try.func64, Try.ntmps64
        go_wp2_with fail
        go_quiet (fail)
        have kp0 : Kp [] w (w.drewN nq) := ⟨rfl, rfl, rfl, Nat.le_refl _, fun _ _ _ => rfl⟩
        generalize w.drewN nq = w0 at *
        have HK0 := Lib.hid kp0
        clear kp0 c0 c1 c2 c3 hsum b0 b1 b2 b3
        by_cases h5 : 1073741824 < N
        · have h5i : (1073741824 : Int) < (N : Int) := by omega
          have HE3 : Hid (unErr zs a = 3) := Lib.hid (by rw [HE.out, unfE, if_neg (by rw [HLL.out]; omega), ← HNN.out, if_pos h5])
          clear h5
          go_wp2_with fail
          go_ret3
          rw [unX, unNext, HE3.out]
          exact ⟨none, 0, rfl, Own.nil _ _ _ _, HK0.out⟩
        · have h5i : ¬ (1073741824 : Int) < (N : Int) := by omega
          by_cases h6 : m < N + 8
          · have h6i : (m : Int) < (N : Int) + 8 := by omega
            have HE3 : Hid (unErr zs a = 4) := Lib.hid (by rw [HE.out, unfE, if_neg (by rw [HLL.out]; omega), ← HNN.out, if_neg h5, if_pos (by rw [HLL.out]; exact h6)])
            clear h5 h6
            go_wp2_with fail
            go_ret3
            rw [unX, unNext, HE3.out]
            exact ⟨none, 0, rfl, Own.nil _ _ _ _, HK0.out⟩
          · have h6i : ¬ (m : Int) < (N : Int) + 8 := by omega
            have hiff := fr_iff (l := l) hbl (by rw [HLL.out, ← HNN.out]; omega)
            have hue : unErr zs a = if leN (sub l (4 + N) (4 + N + 4)) ≠ crc (sub l 4 (4 + N)) then 6 else 0 := by
              rw [HE.out, unfE, if_neg (by rw [HLL.out]; omega), ← HNN.out, if_neg h5, if_neg (by rw [HLL.out]; omega)]
            have hr2 := HR1.out.slice (a := 4) (b := 4 + N) (by omega) (by rw [HLL.out]; omega)
            simp only [Option.map_some, Addr.add_lit] at hr2
            have hr3 := HR1.out.head (b := N + 8) (by rw [HLL.out]; omega)
            rw [← HNN.out] at hiff
            obtain ⟨x, hx⟩ : ∃ x, x = sub l 4 (4 + N) := ⟨_, rfl⟩
            obtain ⟨y, hy⟩ : ∃ y, y = sub l 0 (N + 8) := ⟨_, rfl⟩
            have hxN : N = x.length := by rw [hx, sub_length _ _ _ (by rw [HLL.out]; omega)]; omega
            have hyN : N + 8 = y.length := by rw [hy, sub_length _ _ _ (by rw [HLL.out]; omega)]; omega
            rw [show 4 + N + 4 = N + 8 by omega, ← hx, ← hy] at hiff
            rw [show 4 + N + 4 = N + 8 by omega, ← hx] at hue
            rw [← hx] at hr2
            rw [← hy] at hr3
            have hxb : Bytes8 x := by rw [hx]; exact hbl.sub _ _
            have hyb : Bytes8 y := by rw [hy]; exact hbl.sub _ _
            have HX := Lib.hid hx
            have HXN := Lib.hid hxN
            have HYN := Lib.hid hyN
            have HI := Lib.hid hiff
            have HU := Lib.hid hue
            have HR2 := Lib.hid (hr2.keep0 HK0.out)
            have HR3 := Lib.hid (hr3.keep0 HK0.out)
            have hN1 : N ≤ 1000000000 := by omega
            clear hx hy hxN hyN hiff hue hr2 hr3 h5 h6
            go_wp2_with (at_builtin; go_must (refine wpList_app rfl (.tmp 53) (.tmp 57) 39 39 rfl w0.heap.size 5 .u8 1 Try.underlying39 infoU8 (some ⟨w0.heap.size, 0, none⟩) 0 0 [] rfl x (.slice (some ⟨b, off + 4, none⟩) (4 + N - 4) (cap1 - 4)) (4 + N - 4) (by have := HXN.out; omega) rfl rfl (.inl ⟨rfl, rfl⟩) (by rw [show 4 + N - 4 = x.length by have := HXN.out; omega]; exact src_rd (HR2.out.alloc _) Try.underlying39) (by omega) (by omega) (by simp) ?_); intro ad4 cap4 w4 ho4 kp4 hob4 _; rw [List.nil_append] at ho4; have HO4 := Lib.hid ho4; have HK4 := Lib.hid (((Kp.refl [] w0).alloc _).trans kp4 (U := []) (by simp) (by simp [ob])); clear ho4 kp4 hob4)
            obtain ⟨r, hr⟩ : ∃ r, r = decide (frB x = y) := ⟨_, rfl⟩
            have HE1 := Lib.hid (strq (frB_bytes hxb) hyb r hr)
            have HRR := Lib.hid hr
            have HXB := Lib.hid hxb
            have hc1 : ¬ cap1 = 0 := by omega
            have hc2 : N + 8 ≤ cap1 := by omega
            clear hr hxb hyb
            refine wp_region_K (by kernel_rfl) [.val (.slice ad4 N cap4), .own w4.heap.size 5 .u8 (N + 8) (frB x), .val (.string (strOfNums (frB x))), .val (.slice (some ⟨b, off, none⟩) m cap1), .val (.int .i64 (N : Int)), .val (.int .i64 ((N : Int) + 8)), .val (.slice (some ⟨b, off, none⟩) (N + 8) cap1), .val (.string (strOfNums y)), .val (.bool (!r))] [[(9, none)], [(59, some 0)], [(60, some 1)], [(7, none)], [(8, none)], [(63, some 4)], [(62, some 3), (64, some 5)], [(65, some 6)], [(61, some 2), (66, some 7)]] rfl (by kernel_rfl) ?_ ?_
            · refine ⟨?o0, ?o1, ?o2, ?o3, ?o4, ?o5, ?o6, ?o7, ?o8, trivial⟩
              case o0 => intro aR wR hR; replace hR := hR.undrew; intro (h9 : aR.tmps[9]? = some (.slice ad4 N cap4)); exact exec_val (c := .slice ad4 N cap4) (wanted_none rfl) (by go_simp) rfl
              case o1 => intro aR wR hR; replace hR := hR.undrew; intro v59 h59 e59; replace e59 : v59 = .slice ad4 N cap4 := e59; subst e59; refine exec_call (wanted_none rfl) (by go_simp; exact ⟨rfl, rfl⟩) ?_; refine (r03Frame_any ad4 cap4 N x HXN.out _ (HO4.out.rd.keep0 hR) HXB.out (by omega)).mono ?_; rintro e w7 ⟨ad7, cap7, rfl, ho7, kp7⟩; exact ⟨_, rfl, ⟨ad7, cap7, rfl, ho7.mono hR.size⟩, kp7⟩
              case o2 => intro aR wR hR; replace hR := hR.undrew; intro v60 h60 e60; (obtain ⟨ad, cap, rfl, ho⟩ := e60; have hcv := cvs wR ad cap (N + 8) (frB x) ho.rd (by rw [frB_length, ← HXN.out])); exact exec_val (c := .string (strOfNums (frB x))) (wanted_none rfl) (by go_simp) rfl
              case o3 => intro aR wR hR; replace hR := hR.undrew; intro (h7 : aR.tmps[7]? = some (.slice (some ⟨b, off, none⟩) m cap1)); exact exec_val (c := .slice (some ⟨b, off, none⟩) m cap1) (wanted_none rfl) (by go_simp) rfl
              case o4 => intro aR wR hR; replace hR := hR.undrew; intro (h8 : aR.tmps[8]? = some (.int .i64 (N : Int))); exact exec_val (c := .int .i64 (N : Int)) (wanted_none rfl) (by go_simp) rfl
              case o5 => intro aR wR hR; replace hR := hR.undrew; intro v63 h63 e63; replace e63 : v63 = .int .i64 (N : Int) := e63; subst e63; (have h64 : IntKind.i64.wrap ((N : Int) + 8) = (N : Int) + 8 := by rw [IntWalk.i64_in _ (by omega)]); exact exec_val (c := .int .i64 ((N : Int) + 8)) (wanted_none rfl) (by go_simp) rfl
              case o6 => intro aR wR hR; replace hR := hR.undrew; intro v62 h62 e62; replace e62 : v62 = .slice (some ⟨b, off, none⟩) m cap1 := e62; subst e62; intro v64 h64 e64; replace e64 : v64 = .int .i64 ((N : Int) + 8) := e64; subst e64; (have h1s : 0 ≤ (N : Int) + 8 := (by omega); have h2s : (N : Int) + 8 ≤ (cap1 : Int) := (by omega); have h3s : ((N : Int) + 8).toNat = N + 8 := (by omega)); exact exec_val (c := .slice (some ⟨b, off, none⟩) (N + 8) cap1) (wanted_none rfl) (by go_simp) rfl
              case o7 => intro aR wR hR; replace hR := hR.undrew; intro v65 h65 e65; replace e65 : v65 = .slice (some ⟨b, off, none⟩) (N + 8) cap1 := e65; subst e65; (have hcv := cvs wR (some ⟨b, off, none⟩) cap1 (N + 8) y (HR3.out.keep0 (HK4.out.tr hR)) HYN.out); exact exec_val (c := .string (strOfNums y)) (wanted_none rfl) (by go_simp) rfl
              case o8 => intro aR wR hR; replace hR := hR.undrew; intro v61 h61 e61; replace e61 : v61 = .string (strOfNums (frB x)) := e61; subst e61; intro v66 h66 e66; replace e66 : v66 = .string (strOfNums y) := e66; subst e66; (have hE := HE1.out); exact exec_val (c := .bool (!r)) (wanted_none rfl) (by go_simp) rfl
            · intro vs wR hR hV
              obtain ⟨e0, e1, e2, e3, e4, e5, e6, e7, e8, -⟩ := hV
              replace e0 : vs 0 = .slice ad4 N cap4 := e0
              replace e2 : vs 2 = .string (strOfNums (frB x)) := e2
              replace e3 : vs 3 = .slice (some ⟨b, off, none⟩) m cap1 := e3
              replace e4 : vs 4 = .int .i64 (N : Int) := e4
              replace e5 : vs 5 = .int .i64 ((N : Int) + 8) := e5
              replace e6 : vs 6 = .slice (some ⟨b, off, none⟩) (N + 8) cap1 := e6
              replace e7 : vs 7 = .string (strOfNums y) := e7
              replace e8 : vs 8 = .bool (!r) := e8
              simp only [putAll, e0, e2, e3, e4, e5, e6, e7, e8, Nat.reduceAdd, Nat.zero_add]
              clear e0 e2 e3 e4 e5 e6 e7 e8
              try simp only [List.setIfInBounds_toArray, List.set_cons_succ, List.set_cons_zero]
              have HK5 := Lib.hid (HK4.out.tr hR)
              have HO5 := Lib.hid (HO4.out.keep0 hR)
              clear hR hc1 hc2
              cases r with
              | true =>
                have hfr : frB x = y := by have := HRR.out; simpa using this.symm
                have HE3 : Hid (unErr zs a = 0) := Lib.hid (by rw [HU.out, if_neg (by simpa using HI.out.1 hfr)])
                have hw1 : IntKind.i64.wrap ((a : Int) + N) = (a : Int) + N := by rw [IntWalk.i64_in _ (by omega)]
                have hw2 : IntKind.i64.wrap ((a : Int) + N + 8) = (a : Int) + N + 8 := by rw [IntWalk.i64_in _ (by omega)]
                clear hfr
                go_wp2_with fail
                go_ret3
                rw [unX, unNext, HE3.out, if_pos rfl, if_pos rfl, ← HL.out, ← HNN.out, ← HX.out, ← HXN.out]
                refine ⟨ad4, cap4, ?_, HO5.out.mono HK0.out.size, HK0.out.tr HK5.out⟩
                rw [show (a : Int) + ((N + 8 : Nat) : Int) = (a : Int) + N + 8 by omega]; rfl
              | false =>
                have hfr : ¬ frB x = y := by have := HRR.out; simpa using this.symm
                have HE3 : Hid (unErr zs a = 6) := Lib.hid (by rw [HU.out, if_pos (fun hh => hfr (HI.out.2 hh))])
                clear hfr
                go_wp2_with fail
                go_ret3
                rw [unX, unNext, HE3.out]
                exact ⟨none, 0, rfl, Own.nil _ _ _ _, HK0.out.tr HK5.out⟩
end Go.Proofs.Ytegnobdablbahaa
