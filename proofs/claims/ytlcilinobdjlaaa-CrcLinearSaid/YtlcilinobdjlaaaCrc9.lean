/-
  Layer 3: sums of three.
-/
import Derived.Test.YtlcilinobdjlaaaCrc6
import Derived.Test.YtlcilinobdjlaaaCrcP
namespace Go.Proofs.Ytlcilinobdjlaaa
open Go.RowKit
set_option linter.unusedSimpArgs false
set_option linter.unusedVariables false

set_option maxRecDepth 100000 in
set_option maxHeartbeats 800000 in
theorem crcLinear_any (a0 : Option Addr) (cap0 n0 : Nat) (p : List Int) (a1 : Option Addr) (cap1 n1 : Nat) (b : List Int) (a2 : Option Addr) (cap2 n2 : Nat) (r : List Int) (hn0 : n0 = p.length) (hn1 : n1 = b.length) (hn2 : n2 = r.length) (w : World)
    (hr0 : Rd w .u8 a0 cap0 p) (hr1 : Rd w .u8 a1 cap1 b) (hr2 : Rd w .u8 a2 cap2 r) (hb0 : Bytes8 p) (hb1 : Bytes8 b) (hb2 : Bytes8 r) :
    Calls Try.prog 7 #[.slice a0 n0 cap0, .slice a1 n1 cap1, .slice a2 n2 cap2] w fun e w' => e = .returned (.bool true) ∧ Kp [] w w' := by
  have HR0 := Lib.hid hr0
  have HR1 := Lib.hid hr1
  have HR2 := Lib.hid hr2
  have HN0 := Lib.hid hn0
  have HN1 := Lib.hid hn1
  have HN2 := Lib.hid hn2
  clear hr0 hr1 hr2 hn0 hn1 hn2
  have hmin : ∃ m : Nat, m ≤ n0 ∧ m ≤ n1 ∧ m ≤ n2 ∧ m ≤ 1000 ∧ ∀ wx : World, (Builtin.min_ #[3, 3, 3, 3] 3 #[.int .i64 n0, .int .i64 n1, .int .i64 n2, .int .i64 1000]).run Try.prog wx = .ok (.int .i64 (m : Int)) wx := by
    have e1 : ∀ x y : Nat, (if (x : Int) < (y : Int) then (x : Int) else (y : Int)) = ((min x y : Nat) : Int) := fun x y => by
      by_cases h : x < y
      · rw [if_pos (by omega)]; congr 1; omega
      · rw [if_neg (by omega)]; congr 1; omega
    refine ⟨min 1000 (min n2 (min n1 n0)), by omega, by omega, by omega, by omega, fun wx => ?_⟩
    have e2 : (1000 : Int) = ((1000 : Nat) : Int) := rfl
    simp only [Builtin.min_, Builtin.min2, List.foldlM_cons, List.foldlM_nil, Sem.run_bind, Sem.run_pure, Result.andThen_ok]
    rw [e2]
    simp [Builtin.min2]
    repeat' split
    all_goals omega
  obtain ⟨m, m0, m1, m2, m3, hmin⟩ := hmin
  have hmk := fun wx : World => make_ints (P := Try.prog) wx 22 5 .u8 .i64 .i64 m 1 Try.underlying22 infoU8 (by omega) (by omega)
  go_enter Try.func7, Try.ntmps7
  go_wp2_with fail
  clear hmk hmin
  go_loopw [9, 21] (fun _ vi wr => ∃ (k : Nat) (xs : List Int), k ≤ m ∧ vi = .int .i64 k ∧ Own wr w.heap.size 5 .u8 (some ⟨w.heap.size, 0, none⟩) m xs ∧ xs.length = m ∧ Hid (xs.take k = xorL (xorL (p.take k) (b.take k)) (r.take k)) ∧ Kp [] w wr) (fun _ i _ => m - (intOf i).toNat)
  case atStart => exact ⟨0, List.replicate m 0, Nat.zero_le _, rfl, by simpa using Own.row (zs := List.replicate m 0) (Nat.le_refl w.heap.size) (heap_alloc_at rfl) (by simp; omega), by simp, Lib.hid (by simp [xorL]), (Kp.refl [] w).alloc _⟩
  case round =>
    obtain ⟨k, xs, hk, rfl, ho, hxs, HX, kp⟩ := hrel
    by_cases hlt : k < m
    · have l0 : k < p.length := by have := HN0.out; omega
      have l1 : k < b.length := by have := HN1.out; omega
      have l2 : k < r.length := by have := HN2.out; omega
      obtain ⟨g0, o0, rfl, c0⟩ := HR0.out.2.2 k l0
      obtain ⟨g1, o1, rfl, c1⟩ := HR1.out.2.2 k l1
      obtain ⟨g2, o2, rfl, c2⟩ := HR2.out.2.2 k l2
      replace c0 := kp.cell c0 (by simp)
      replace c1 := kp.cell c1 (by simp)
      replace c2 := kp.cell c2 (by simp)
      have b0 := hb0 _ (nth_mem l0)
      have b1 := hb1 _ (nth_mem l1)
      have b2 := hb2 _ (nth_mem l2)
      obtain ⟨g, hge, hc, hf, -, -⟩ := ho.at' (i := k) (by omega)
      cases hge
      have hp0 := HR0.out.1
      have hp1 := HR1.out.1
      have hp2 := HR2.out.1
      obtain ⟨x0, hx0⟩ := Int.eq_ofNat_of_zero_le b0.1
      obtain ⟨x1, hx1⟩ := Int.eq_ofNat_of_zero_le b1.1
      obtain ⟨x2, hx2⟩ := Int.eq_ofNat_of_zero_le b2.1
      have e1 := u8_xor_nat x0 x1 (by omega) (by omega)
      have e2 := u8_xor_nat (x0 ^^^ x1) x2 (Nat.xor_lt_two_pow (n := 8) (by omega) (by omega)) (by omega)
      obtain ⟨y, hy⟩ : ∃ y, y = x0 ^^^ x1 := ⟨_, rfl⟩
      obtain ⟨q, hq⟩ : ∃ q, q = y ^^^ x2 := ⟨_, rfl⟩
      rw [← hy] at e1 e2
      rw [← hq] at e2
      have hset := ho.set k (q : Int)
      have HTK : Hid ((xs.set k (q : Int)).take (k + 1) = xorL (xorL (p.take (k + 1)) (b.take (k + 1))) (r.take (k + 1))) := Lib.hid (by
        rw [take_nth p k l0, take_nth b k l1, take_nth r k l2, hx0, hx1, hx2]
        rw [List.take_set, List.take_succ_eq_append_getElem (by omega), List.set_append_right _ _ (by simp; omega), HX.out]
        simp only [xorL]
        rw [List.zipWith_append (by simp; omega), List.zipWith_append (by simp; omega)]
        simp [hq, hy, show min k xs.length = k by omega]
        rw [show k - min k (min p.length (min k (min b.length (min k r.length)))) = 0 by omega]
        rfl)
      rw [hx0] at c0; rw [hx1] at c1; rw [hx2] at c2
      have HO := Lib.hid hset
      have HKP := Lib.hid (kp.setCell ⟨w.heap.size, k, none⟩ (.int .u8 (q : Int)) (.inr (Nat.le_refl _)))
      clear hx0 hx1 hx2 hy hq hset ho kp HX b0 b1 b2 l0 l1 l2
      obtain ⟨q0, hq0⟩ : ∃ q0, q0 = nth xs k := ⟨_, rfl⟩
      rw [← hq0] at hc
      clear hq0
      go_wp2_with fail
      go_region
      go_wp2_with fail
      go_roundw
      case rel => exact ⟨k + 1, _, by omega, by go_num, HO.out.drew, by simp [hxs], HTK, HKP.out.drew⟩
      case measure => simp [intOf]; omega
    · obtain rfl : k = m := by omega
      obtain ⟨ad4, cap4, hsl4, hr4⟩ := head_rd w a0 cap0 n0 k p HN0.out m0 HR0.out
      obtain ⟨ad5, cap5, hsl5, hr5⟩ := head_rd w a1 cap1 n1 k b HN1.out m1 HR1.out
      obtain ⟨ad6, cap6, hsl6, hr6⟩ := head_rd w a2 cap2 n2 k r HN2.out m2 HR2.out
      have hlp : k = (sub p 0 k).length := by rw [sub_length _ _ _ (by have := HN0.out; omega)]; omega
      have hlb : k = (sub b 0 k).length := by rw [sub_length _ _ _ (by have := HN1.out; omega)]; omega
      have hlr : k = (sub r 0 k).length := by rw [sub_length _ _ _ (by have := HN2.out; omega)]; omega
      have hxe : xs = xorL (xorL (sub p 0 k) (sub b 0 k)) (sub r 0 k) := by
        have := HX.out
        rw [List.take_of_length_le (by omega)] at this
        simpa [sub] using this
      have hxx : ∀ u v : List Int, Bytes8 u → Bytes8 v → Bytes8 (xorL u v) := fun u v hu hv z hz => by
        rw [xorL, List.mem_iff_getElem] at hz
        obtain ⟨i, hi, rfl⟩ := hz
        simp only [List.length_zipWith] at hi
        rw [List.getElem_zipWith]
        have h1 := hu _ (List.getElem_mem (show i < u.length by omega))
        have h2 := hv _ (List.getElem_mem (show i < v.length by omega))
        have h3 := Nat.xor_lt_two_pow (x := (u[i]'(by omega)).toNat) (y := (v[i]'(by omega)).toNat) (n := 8) (by omega) (by omega)
        omega
      have hxb : Bytes8 xs := by rw [hxe]; exact hxx _ _ (hxx _ _ (hb0.sub _ _) (hb1.sub _ _)) (hb2.sub _ _)
      have hlin := crc_lin (sub p 0 k) (sub b 0 k) (sub r 0 k) (by omega) (by omega) (hb0.sub _ _) (hb1.sub _ _) (hb2.sub _ _) (by rw [← hxe]; exact hxb)
      rw [← hxe] at hlin
      have lA := crc_lt (sub p 0 k)
      have lB := crc_lt (sub b 0 k)
      have lC := crc_lt (sub r 0 k)
      obtain ⟨A, hA⟩ : ∃ A, A = crc (sub p 0 k) := ⟨_, rfl⟩
      obtain ⟨B, hB⟩ : ∃ B, B = crc (sub b 0 k) := ⟨_, rfl⟩
      obtain ⟨C, hC⟩ : ∃ C, C = crc (sub r 0 k) := ⟨_, rfl⟩
      obtain ⟨c, hc⟩ : ∃ c, c = crc xs := ⟨_, rfl⟩
      rw [← hA, ← hB, ← hC, ← hc] at hlin
      rw [← hA] at lA; rw [← hB] at lB; rw [← hC] at lC
      have hD := u32_xor_nat A B lA lB
      have hE := u32_xor_nat (A ^^^ B) C (Nat.xor_lt_two_pow (n := 32) lA lB) lC
      rw [hlin] at hE
      obtain ⟨D, hDD⟩ : ∃ D, D = A ^^^ B := ⟨_, rfl⟩
      rw [← hDD] at hD hE
      have HS4 := Lib.hid hsl4
      have HS5 := Lib.hid hsl5
      have HS6 := Lib.hid hsl6
      have HR4 := Lib.hid (hr4.keep0 kp)
      have HR5 := Lib.hid (hr5.keep0 kp)
      have HR6 := Lib.hid (hr6.keep0 kp)
      have HLP := Lib.hid hlp
      have HLB := Lib.hid hlb
      have HLR := Lib.hid hlr
      have HXB := Lib.hid hxb
      have HD := Lib.hid hD
      have HE := Lib.hid hE
      have HA := Lib.hid hA
      have HB := Lib.hid hB
      have HC := Lib.hid hC
      have Hc := Lib.hid hc
      have HO := Lib.hid ho
      have HK := Lib.hid kp
      have HXS := Lib.hid hxs
      clear hsl4 hsl5 hsl6 hr4 hr5 hr6 hlp hlb hlr hxe hxx hxb hlin hA hB hC hc hD hE hDD ho kp hxs lA lB lC HX
      go_wp2_with fail
      refine wp_region_K (by kernel_rfl) [.val (.slice a0 n0 cap0), .val (.int .i64 (k : Int)), .val (.slice ad4 k cap4), .val (.int .u32 (A : Int)), .val (.slice a1 n1 cap1), .val (.int .i64 (k : Int)), .val (.slice ad5 k cap5), .val (.int .u32 (B : Int)), .val (.int .u32 (D : Int)), .val (.slice a2 n2 cap2), .val (.int .i64 (k : Int)), .val (.slice ad6 k cap6), .val (.int .u32 (C : Int)), .val (.int .u32 (c : Int)), .val (.slice (some ⟨w.heap.size, 0, none⟩) k k), .val (.int .u32 (c : Int)), .val (.bool true), .val (.bool true), .val (.bool true), .val (.bool true), .val (.bool true)] [[(0, none)], [(7, none)], [(42, some 0), (43, some 1)], [(44, some 2)], [(1, none)], [(7, none)], [(46, some 4), (47, some 5)], [(48, some 6)], [(45, some 3), (49, some 7)], [(2, none)], [(7, none)], [(51, some 9), (52, some 10)], [(53, some 11)], [(50, some 8), (54, some 12)], [(8, none)], [(56, some 14)], [(55, some 13), (57, some 15)], [(58, some 16)], [(59, some 17)], [(59, some 17), (60, some 18)], [(61, some 19)]] rfl (by kernel_rfl) ?_ ?_
      · refine ⟨?o0, ?o1, ?o2, ?o3, ?o4, ?o5, ?o6, ?o7, ?o8, ?o9, ?o10, ?o11, ?o12, ?o13, ?o14, ?o15, ?o16, ?o17, ?o18, ?o19, ?o20, trivial⟩
        case o0 => intro aR wR hR; replace hR := hR.undrew; intro (h0 : aR.tmps[0]? = some (.slice a0 n0 cap0)); exact exec_val (c := .slice a0 n0 cap0) (wanted_none rfl) (by go_simp) rfl
        case o1 => intro aR wR hR; replace hR := hR.undrew; intro (h7 : aR.tmps[7]? = some (.int .i64 (k : Int))); exact exec_val (c := .int .i64 (k : Int)) (wanted_none rfl) (by go_simp) rfl
        case o2 => intro aR wR hR; replace hR := hR.undrew; intro v42 h42 e42; replace e42 : v42 = .slice a0 n0 cap0 := e42; subst e42; intro v43 h43 e43; replace e43 : v43 = .int .i64 (k : Int) := e43; subst e43; (have hs := HS4.out wR); exact exec_val (c := .slice ad4 k cap4) (wanted_none rfl) (by go_simp) rfl
        case o3 => intro aR wR hR; replace hR := hR.undrew; intro v44 h44 e44; replace e44 : v44 = .slice ad4 k cap4 := e44; subst e44; refine exec_call (wanted_none rfl) (by go_simp; exact ⟨rfl, rfl⟩) ?_; refine (kSum_any ad4 cap4 k (sub p 0 k) HLP.out _ (HR4.out.keep0 hR) (hb0.sub _ _) (by omega)).mono ?_; rintro e w7 ⟨rfl, kp7⟩; exact ⟨_, rfl, by rw [HA.out]; rfl, kp7⟩
        case o4 => intro aR wR hR; replace hR := hR.undrew; intro (h1 : aR.tmps[1]? = some (.slice a1 n1 cap1)); exact exec_val (c := .slice a1 n1 cap1) (wanted_none rfl) (by go_simp) rfl
        case o5 => intro aR wR hR; replace hR := hR.undrew; intro (h7 : aR.tmps[7]? = some (.int .i64 (k : Int))); exact exec_val (c := .int .i64 (k : Int)) (wanted_none rfl) (by go_simp) rfl
        case o6 => intro aR wR hR; replace hR := hR.undrew; intro v46 h46 e46; replace e46 : v46 = .slice a1 n1 cap1 := e46; subst e46; intro v47 h47 e47; replace e47 : v47 = .int .i64 (k : Int) := e47; subst e47; (have hs := HS5.out wR); exact exec_val (c := .slice ad5 k cap5) (wanted_none rfl) (by go_simp) rfl
        case o7 => intro aR wR hR; replace hR := hR.undrew; intro v48 h48 e48; replace e48 : v48 = .slice ad5 k cap5 := e48; subst e48; refine exec_call (wanted_none rfl) (by go_simp; exact ⟨rfl, rfl⟩) ?_; refine (kSum_any ad5 cap5 k (sub b 0 k) HLB.out _ (HR5.out.keep0 hR) (hb1.sub _ _) (by omega)).mono ?_; rintro e w7 ⟨rfl, kp7⟩; exact ⟨_, rfl, by rw [HB.out]; rfl, kp7⟩
        case o8 => intro aR wR hR; replace hR := hR.undrew; intro v45 h45 e45; replace e45 : v45 = .int .u32 (A : Int) := e45; subst e45; intro v49 h49 e49; replace e49 : v49 = .int .u32 (B : Int) := e49; subst e49; (have hs := HD.out); exact exec_val (c := .int .u32 (D : Int)) (wanted_none rfl) (by go_simp) rfl
        case o9 => intro aR wR hR; replace hR := hR.undrew; intro (h2 : aR.tmps[2]? = some (.slice a2 n2 cap2)); exact exec_val (c := .slice a2 n2 cap2) (wanted_none rfl) (by go_simp) rfl
        case o10 => intro aR wR hR; replace hR := hR.undrew; intro (h7 : aR.tmps[7]? = some (.int .i64 (k : Int))); exact exec_val (c := .int .i64 (k : Int)) (wanted_none rfl) (by go_simp) rfl
        case o11 => intro aR wR hR; replace hR := hR.undrew; intro v51 h51 e51; replace e51 : v51 = .slice a2 n2 cap2 := e51; subst e51; intro v52 h52 e52; replace e52 : v52 = .int .i64 (k : Int) := e52; subst e52; (have hs := HS6.out wR); exact exec_val (c := .slice ad6 k cap6) (wanted_none rfl) (by go_simp) rfl
        case o12 => intro aR wR hR; replace hR := hR.undrew; intro v53 h53 e53; replace e53 : v53 = .slice ad6 k cap6 := e53; subst e53; refine exec_call (wanted_none rfl) (by go_simp; exact ⟨rfl, rfl⟩) ?_; refine (kSum_any ad6 cap6 k (sub r 0 k) HLR.out _ (HR6.out.keep0 hR) (hb2.sub _ _) (by omega)).mono ?_; rintro e w7 ⟨rfl, kp7⟩; exact ⟨_, rfl, by rw [HC.out]; rfl, kp7⟩
        case o13 => intro aR wR hR; replace hR := hR.undrew; intro v50 h50 e50; replace e50 : v50 = .int .u32 (D : Int) := e50; subst e50; intro v54 h54 e54; replace e54 : v54 = .int .u32 (C : Int) := e54; subst e54; (have hs := HE.out); exact exec_val (c := .int .u32 (c : Int)) (wanted_none rfl) (by go_simp) rfl
        case o14 => intro aR wR hR; replace hR := hR.undrew; intro (h8 : aR.tmps[8]? = some (.slice (some ⟨w.heap.size, 0, none⟩) k k)); exact exec_val (c := .slice (some ⟨w.heap.size, 0, none⟩) k k) (wanted_none rfl) (by go_simp) rfl
        case o15 => intro aR wR hR; replace hR := hR.undrew; intro v56 h56 e56; replace e56 : v56 = .slice (some ⟨w.heap.size, 0, none⟩) k k := e56; subst e56; refine exec_call (wanted_none rfl) (by go_simp; exact ⟨rfl, rfl⟩) ?_; refine (kSum_any (some ⟨w.heap.size, 0, none⟩) k k xs HXS.out.symm _ (HO.out.rd.keep0 hR) HXB.out (by omega)).mono ?_; rintro e w7 ⟨rfl, kp7⟩; exact ⟨_, rfl, by rw [Hc.out]; rfl, kp7⟩
        case o16 => intro aR wR hR; replace hR := hR.undrew; intro v55 h55 e55; replace e55 : v55 = .int .u32 (c : Int) := e55; subst e55; intro v57 h57 e57; replace e57 : v57 = .int .u32 (c : Int) := e57; subst e57; exact exec_val (c := .bool true) (wanted_none rfl) (by go_simp) rfl
        case o17 => intro aR wR hR; replace hR := hR.undrew; intro v58 h58 e58; replace e58 : v58 = .bool true := e58; subst e58; exact exec_val (c := .bool true) (wanted_none rfl) (by go_simp) rfl
        case o18 => intro aR wR hR; replace hR := hR.undrew; intro v59 h59 e59; replace e59 : v59 = .bool true := e59; subst e59; refine exec_call (wanted_yes (b := true) (t := 59) rfl rfl h59) (by go_simp; exact ⟨rfl, rfl⟩) ?_; refine (known03_any _).mono ?_; rintro e w7 ⟨rfl, kp7⟩; exact ⟨_, rfl, rfl, kp7⟩
        case o19 => intro aR wR hR; replace hR := hR.undrew; intro v59 h59 e59; replace e59 : v59 = .bool true := e59; subst e59; intro v60 h60 e60; replace e60 : v60 = .bool true := e60; subst e60; exact exec_val (c := .bool true) (wanted_none rfl) (by go_simp) rfl
        case o20 => intro aR wR hR; replace hR := hR.undrew; intro v61 h61 e61; replace e61 : v61 = .bool true := e61; subst e61; exact exec_val (c := .bool true) (wanted_none rfl) (by go_simp) rfl
      · intro vs wR hR hV
        obtain ⟨e0, e1, e2, e3, e4, e5, e6, e7, e8, e9, e10, e11, e12, e13, e14, e15, e16, e17, e18, e19, e20, -⟩ := hV
        replace e0 : vs 0 = .slice a0 n0 cap0 := e0
        replace e1 : vs 1 = .int .i64 (k : Int) := e1
        replace e2 : vs 2 = .slice ad4 k cap4 := e2
        replace e3 : vs 3 = .int .u32 (A : Int) := e3
        replace e4 : vs 4 = .slice a1 n1 cap1 := e4
        replace e5 : vs 5 = .int .i64 (k : Int) := e5
        replace e6 : vs 6 = .slice ad5 k cap5 := e6
        replace e7 : vs 7 = .int .u32 (B : Int) := e7
        replace e8 : vs 8 = .int .u32 (D : Int) := e8
        replace e9 : vs 9 = .slice a2 n2 cap2 := e9
        replace e10 : vs 10 = .int .i64 (k : Int) := e10
        replace e11 : vs 11 = .slice ad6 k cap6 := e11
        replace e12 : vs 12 = .int .u32 (C : Int) := e12
        replace e13 : vs 13 = .int .u32 (c : Int) := e13
        replace e14 : vs 14 = .slice (some ⟨w.heap.size, 0, none⟩) k k := e14
        replace e15 : vs 15 = .int .u32 (c : Int) := e15
        replace e16 : vs 16 = .bool true := e16
        replace e17 : vs 17 = .bool true := e17
        replace e18 : vs 18 = .bool true := e18
        replace e19 : vs 19 = .bool true := e19
        replace e20 : vs 20 = .bool true := e20
        simp only [putAll, e0, e1, e2, e3, e4, e5, e6, e7, e8, e9, e10, e11, e12, e13, e14, e15, e16, e17, e18, e19, e20, Nat.reduceAdd, Nat.zero_add]
        clear e0 e1 e2 e3 e4 e5 e6 e7 e8 e9 e10 e11 e12 e13 e14 e15 e16 e17 e18 e19 e20
        simp only [List.setIfInBounds_toArray, List.set_cons_succ, List.set_cons_zero]
        go_wp2_with fail
        go_ret
        exact ⟨rfl, HK.out.tr hR⟩
end Go.Proofs.Ytlcilinobdjlaaa
