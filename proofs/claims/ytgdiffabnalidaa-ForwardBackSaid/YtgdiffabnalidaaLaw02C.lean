/-
  The walks of PackDoes and PackOnly.
-/
import Derived.Test.YtgdiffabnalidaaLaw02
namespace Go.Proofs.Ytgdiffabnalidaa
open Go.RowKit
set_option linter.unusedSimpArgs false
set_option linter.unusedVariables false

theorem does_law (l : List Int) (wd : Int) (h : packE l wd = 0) (hu : U64s l) : unpE (packL l wd) l.length wd = 0 ∧ unpL (packL l wd) l.length wd = l ∧ (packL l wd).length = sizeV l.length wd := by
  unfold packE at h
  split at h
  · rename_i hc
    have hp : packL l wd = packs wd.toNat l := by unfold packL; rw [if_pos hc]
    have hlt : ¬ 2 ^ (l.length * wd.toNat) ≤ vn wd.toNat l := by have := vn_lt wd.toNat l hc.2; omega
    have he : unpE (packL l wd) l.length wd = 0 := by
      unfold unpE
      rw [hp, packs_length, leN_packs _ _ hc.2, if_neg (by simpa using hc.1)]
      simp only [Int.toNat_natCast]
      rw [if_neg (by omega), if_neg (by omega)]
    refine ⟨he, ?_, ?_⟩
    · unfold unpL
      rw [if_pos he, hp, leN_packs _ _ hc.2, Int.toNat_natCast]
      exact unp_vn _ _ hc.2
    · rw [hp, packs_length]; unfold sizeV; rw [if_pos hc.1, Int.toNat_natCast]
  · omega
theorem packL_len2 (l : List Int) (wd : Int) : (packL l wd).length ≤ 8 * l.length + 1 := by
  unfold packL
  split
  · rename_i hc
    rw [packs_length]
    have h1 := sizeN_lt l.length wd.toNat
    have h2 : l.length * wd.toNat ≤ l.length * 64 := Nat.mul_le_mul_left _ (by have := hc.1.2.2.2; omega)
    omega
  · simp
theorem packE_or (l : List Int) (wd : Int) : packE l wd = 0 ∨ packE l wd = 2 := by unfold packE; split <;> simp

set_option maxRecDepth 100000 in
set_option maxHeartbeats 2000000 in
theorem does02_walk (a0 : Option Addr) (cap0 : Nat) (l : List Int) (wd nn : Int) (w : World) (r0 : Rd w .u64 a0 cap0 l) (u0 : U64s l) :
    Calls Try.prog 3 #[.slice a0 l.length cap0, .int .i64 wd, .int .i64 nn] w fun e w' => e = .returned (.bool true) ∧ Kp [] w w' := by
  obtain ⟨n, hn⟩ : ∃ n, n = l.length := ⟨_, rfl⟩
  rw [← hn]
  have HN := Lib.hid hn
  have R0 := Lib.hid r0
  have U0 := Lib.hid u0
  clear hn r0 u0
  by_cases h1 : 300 < n
  · go_enter Try.func3, Try.ntmps3
    go_wp2_with (go_at_call 11; refine (known02 _).mono ?_; rintro e w' ⟨rfl, kp⟩)
    go_ret
    exact ⟨rfl, kp⟩
  have hp0 := fun a1 cap1 wx h => pack_all a1 cap1 n wd l HN.out wx h U0.out (by omega)
  have hp1 := fun a1 cap1 wx h => r02pack_all a1 cap1 n wd l HN.out wx h U0.out (by omega)
  have b0 := packL_len2 l wd
  rw [← HN.out] at b0
  have hlaw := fun h => does_law l wd h U0.out
  have hor := packE_or l wd
  have hpb := packL_bytes l wd
  generalize packE l wd = ec at *
  generalize packL l wd = p at *
  obtain ⟨np, hnp⟩ : ∃ np, np = p.length := ⟨_, rfl⟩
  simp only [← hnp] at hp0 hp1 b0 hlaw
  rw [← HN.out] at hlaw
  have HP0 := Lib.hid hp0
  have HP1 := Lib.hid hp1
  have HNP := Lib.hid hnp
  have HLAW := Lib.hid hlaw
  have HOR := Lib.hid hor
  have HPB := Lib.hid hpb
  clear hp0 hp1 hnp hlaw hor hpb
  go_enter Try.func3, Try.ntmps3
  go_wp2_with (at_builtin; refine wpList_app rfl (.tmp 19) (.tmp 20) 22 22 rfl w.heap.size 31 .u64 8 Try.underlying22 infoU64 (some ⟨w.heap.size, 0, none⟩) 0 0 [] rfl l _ n HN.out rfl rfl (.inl ⟨rfl, rfl⟩) (by rw [HN.out]; exact src_rd (R0.out.alloc _) Try.underlying22) (by omega) (by omega) (by simp) ?_; intro ad1 cap1 w1 ho1 kp1 hob1 _)
  have kw1 : Kp [] w w1 := ((Kp.refl [] w).alloc _).trans kp1 (by simp) (by simp [ob])
  rw [List.nil_append] at ho1
  have HO1 := Lib.hid ho1
  clear ho1 kp1 hob1
  refine (HP0.out ad1 cap1 w1 HO1.out.rd).mono ?_
  rintro e w2 ⟨ad2, cap2, rfl, ho2, kp2⟩
  have HO2 := Lib.hid ho2
  have kw2 := kw1.tr kp2
  have HO12 := Lib.hid (HO1.out.keep0 kp2)
  clear ho2 kp2 HO1
  go_wp2_with fail
  refine (HP1.out a0 cap0 w2 (R0.out.keep0 kw2)).mono ?_
  rintro e w3 ⟨ad3, cap3, rfl, ho3, kp3⟩
  have kw3 := kw2.tr kp3
  have HO3 := Lib.hid ho3
  have HO23 := Lib.hid (HO2.out.keep0 kp3)
  have HO13 := Lib.hid (HO12.out.keep0 kp3)
  have R3 := Lib.hid (R0.out.keep0 kw3)
  have hcv2 := conv_str (P := Try.prog) w3 24 9 5 Try.underlying24 Try.underlying5 Try.underlying9 ad2 cap2 np p HO23.out.rd HNP.out
  have hcv3 := conv_str (P := Try.prog) w3 24 9 5 Try.underlying24 Try.underlying5 Try.underlying9 ad3 cap3 np p HO3.out.rd HNP.out
  clear ho3 kp3 kw1 kw2 HO2 HO12
  go_wp2_with fail
  clear hcv2 hcv3
  refine (r02same_yes ad1 a0 cap1 cap0 l n HN.out w3 HO13.out.rd R3.out).mono ?_
  rintro e w4 ⟨rfl, kp4⟩
  have kw4 := kw3.tr kp4
  have HO24 := Lib.hid (HO23.out.keep0 kp4)
  clear kp4 kw3
  go_wp2_with (first
    | (go_at_call 15; refine (psize_all nn wd _).mono ?_; rintro e w' ⟨rfl, rfl⟩)
    | (go_at_call 16; refine (r02size_all nn wd _).mono ?_; rintro e w' ⟨rfl, rfl⟩))
  go_loopw [61] (fun vi wr => ∃ k : Nat, k ≤ n ∧ vi = .int .i64 k ∧ Kp [] w4 wr) (fun vi _ => n - (intOf vi).toNat)
  case atStart => exact ⟨0, Nat.zero_le _, rfl, Kp.refl _ _⟩
  case round =>
    obtain ⟨k, hk, rfl, kp⟩ := hrel
    by_cases hlt : k < n
    · have hkl : k < l.length := by rw [← HN.out]; exact hlt
      obtain ⟨b, off, rfl, hc⟩ := (R0.out.keep0 (kw4.tr kp)).2.2 k hkl
      have hxb := U0.out _ (nth_mem hkl)
      obtain ⟨x, hx⟩ := Int.eq_ofNat_of_zero_le hxb.1
      rw [hx] at hc hxb
      have HX64 : Hid (x < 18446744073709551616) := Lib.hid (by omega)
      have CX := Lib.hid hc
      clear hx hxb hc hkl
      go_wp2_with fail
      refine wp_region_K (by kernel_rfl) [.val (.slice (some ⟨b, off, none⟩) n cap0), .val (.int .i64 (k : Int)), .val (.pointer (some ⟨b, off + k, none⟩)), .val (.int .u64 (x : Int)), .val (.int .i64 (widthN x : Int)), .val (.slice (some ⟨b, off, none⟩) n cap0), .val (.int .i64 (k : Int)), .val (.pointer (some ⟨b, off + k, none⟩)), .val (.int .u64 (x : Int)), .val (.int .i64 (widthN x : Int)), .val (.bool false)] [[(0, none)], [(12, none)], [(64, some 0), (65, some 1)], [(66, some 2)], [(67, some 3)], [(0, none)], [(12, none)], [(69, some 5), (70, some 6)], [(71, some 7)], [(72, some 8)], [(68, some 4), (73, some 9)]] rfl (by kernel_rfl) ?_ ?_
      · refine ⟨?o0, ?o1, ?o2, ?o3, ?o4, ?o5, ?o6, ?o7, ?o8, ?o9, ?o10, trivial⟩
        case o0 => intro aR wR hR; replace hR := hR.undrew; intro (h0 : aR.tmps[0]? = some (.slice (some ⟨b, off, none⟩) n cap0)); exact exec_val (c := .slice (some ⟨b, off, none⟩) n cap0) (wanted_none rfl) (by go_simp) rfl
        case o1 => intro aR wR hR; replace hR := hR.undrew; intro (h12 : aR.tmps[12]? = some (.int .i64 (k : Int))); exact exec_val (c := .int .i64 (k : Int)) (wanted_none rfl) (by go_simp) rfl
        case o2 => intro aR wR hR; replace hR := hR.undrew; intro v64 h64 e64; replace e64 : v64 = .slice (some ⟨b, off, none⟩) n cap0 := e64; subst e64; intro v65 h65 e65; replace e65 : v65 = .int .i64 (k : Int) := e65; subst e65; (skip); exact exec_val (c := .pointer (some ⟨b, off + k, none⟩)) (wanted_none rfl) (by go_simp) rfl
        case o3 => intro aR wR hR; replace hR := hR.undrew; intro v66 h66 e66; replace e66 : v66 = .pointer (some ⟨b, off + k, none⟩) := e66; subst e66; (have hcell := hR.cell CX.out (by simp)); exact exec_val (c := .int .u64 (x : Int)) (wanted_none rfl) (by go_simp) rfl
        case o4 => intro aR wR hR; replace hR := hR.undrew; intro v67 h67 e67; replace e67 : v67 = .int .u64 (x : Int) := e67; subst e67; refine exec_call (wanted_none rfl) (by go_simp; exact ⟨rfl, rfl⟩) ?_; refine (pwidth_any x _ HX64.out).mono ?_; rintro e w7 ⟨rfl, rfl⟩; exact ⟨_, rfl, rfl, Kp.refl _ _⟩
        case o5 => intro aR wR hR; replace hR := hR.undrew; intro (h0 : aR.tmps[0]? = some (.slice (some ⟨b, off, none⟩) n cap0)); exact exec_val (c := .slice (some ⟨b, off, none⟩) n cap0) (wanted_none rfl) (by go_simp) rfl
        case o6 => intro aR wR hR; replace hR := hR.undrew; intro (h12 : aR.tmps[12]? = some (.int .i64 (k : Int))); exact exec_val (c := .int .i64 (k : Int)) (wanted_none rfl) (by go_simp) rfl
        case o7 => intro aR wR hR; replace hR := hR.undrew; intro v69 h69 e69; replace e69 : v69 = .slice (some ⟨b, off, none⟩) n cap0 := e69; subst e69; intro v70 h70 e70; replace e70 : v70 = .int .i64 (k : Int) := e70; subst e70; (skip); exact exec_val (c := .pointer (some ⟨b, off + k, none⟩)) (wanted_none rfl) (by go_simp) rfl
        case o8 => intro aR wR hR; replace hR := hR.undrew; intro v71 h71 e71; replace e71 : v71 = .pointer (some ⟨b, off + k, none⟩) := e71; subst e71; (have hcell := hR.cell CX.out (by simp)); exact exec_val (c := .int .u64 (x : Int)) (wanted_none rfl) (by go_simp) rfl
        case o9 => intro aR wR hR; replace hR := hR.undrew; intro v72 h72 e72; replace e72 : v72 = .int .u64 (x : Int) := e72; subst e72; refine exec_call (wanted_none rfl) (by go_simp; exact ⟨rfl, rfl⟩) ?_; refine (r02width_any x _ HX64.out).mono ?_; rintro e w7 ⟨rfl, rfl⟩; exact ⟨_, rfl, rfl, Kp.refl _ _⟩
        case o10 => intro aR wR hR; replace hR := hR.undrew; intro v68 h68 e68; replace e68 : v68 = .int .i64 (widthN x : Int) := e68; subst e68; intro v73 h73 e73; replace e73 : v73 = .int .i64 (widthN x : Int) := e73; subst e73; exact exec_val (c := .bool false) (wanted_none rfl) (by go_simp) rfl
      · intro vs wR hR hV
        obtain ⟨e0, e1, e2, e3, e4, e5, e6, e7, e8, e9, e10, -⟩ := hV
        replace e0 : vs 0 = .slice (some ⟨b, off, none⟩) n cap0 := e0
        replace e1 : vs 1 = .int .i64 (k : Int) := e1
        replace e2 : vs 2 = .pointer (some ⟨b, off + k, none⟩) := e2
        replace e3 : vs 3 = .int .u64 (x : Int) := e3
        replace e4 : vs 4 = .int .i64 (widthN x : Int) := e4
        replace e5 : vs 5 = .slice (some ⟨b, off, none⟩) n cap0 := e5
        replace e6 : vs 6 = .int .i64 (k : Int) := e6
        replace e7 : vs 7 = .pointer (some ⟨b, off + k, none⟩) := e7
        replace e8 : vs 8 = .int .u64 (x : Int) := e8
        replace e9 : vs 9 = .int .i64 (widthN x : Int) := e9
        replace e10 : vs 10 = .bool false := e10
        simp only [putAll, e0, e1, e2, e3, e4, e5, e6, e7, e8, e9, e10, Nat.reduceAdd, Nat.zero_add]
        clear e0 e1 e2 e3 e4 e5 e6 e7 e8 e9 e10
        try simp only [List.setIfInBounds_toArray, List.set_cons_succ, List.set_cons_zero]
        go_wp2_with fail
        go_roundw
        case rel => exact ⟨k + 1, hlt, by go_num, kp.tr hR⟩
        case measure => simp [intOf]; omega
    · rcases HOR.out with h0 | h0
      · obtain ⟨q1, q2, q3⟩ := HLAW.out h0
        have hun := unpack_any ad2 cap2 np p HNP.out (n : Int) wd wr (HO24.out.rd.keep0 kp) HPB.out (by have := HNP.out; omega)
        unfold UnpPost at hun
        rw [q1, q2, ← HN.out] at hun
        have HUN := Lib.hid hun
        have Q3 := Lib.hid q3
        subst h0
        clear q1 q2 q3 hun
        go_wp2_with fail
        refine HUN.out.mono ?_
        rintro e w5 ⟨ad5, cap5, rfl, ho5, kp5⟩
        have kw5 := (kw4.tr kp).tr kp5
        have HO5 := Lib.hid ho5
        clear ho5 kp5
        go_wp2_with fail
        refine (r02same_yes ad5 a0 cap5 cap0 l n HN.out w5 HO5.out.rd (R0.out.keep0 kw5)).mono ?_
        rintro e w6 ⟨rfl, kp6⟩
        have kw6 := kw5.tr kp6
        go_wp2_with fail
        refine (psize_all (n : Int) wd w6).mono ?_
        rw [← Q3.out]
        rintro e w' ⟨rfl, rfl⟩
        go_wp2_with (go_at_call 11; refine (known02 _).mono ?_; rintro e w7 ⟨rfl, kp7⟩)
        go_ret
        exact ⟨rfl, kw6.tr kp7⟩
      · subst h0
        go_wp2_with (go_at_call 11; refine (known02 _).mono ?_; rintro e w7 ⟨rfl, kp7⟩)
        go_ret
        exact ⟨rfl, (kw4.tr kp).tr kp7⟩

theorem only_law (bs : List Int) (n wd : Int) (hb : Bytes8 bs) (h : unpE bs n wd = 0) :
    ∃ (c d : Nat) (lu : List Int), n = c ∧ wd = d ∧ 1 ≤ d ∧ d ≤ 64 ∧ fitsP c d ∧ lu = unpL bs n wd ∧ lu.length = c ∧ U64s lu ∧ packE lu wd = 0 ∧ packL lu wd = bs ∧ unpE (bs ++ [0]) n wd = 5 ∧ (0 < bs.length → unpE (sub bs 0 (bs.length - 1)) n wd = 4) ∧
      (∀ i, i < c → getV bs (i : Int) wd = (nth lu i).toNat) ∧ (∀ i, i < c → widthN (nth lu i).toNat ≤ d) := by
  have h0 := h
  unfold unpE at h
  split at h
  · omega
  · rename_i hf
    have hf : fitsP n wd := by simpa using hf
    obtain ⟨c, rfl⟩ := Int.eq_ofNat_of_zero_le hf.1
    obtain ⟨d, rfl⟩ := Int.eq_ofNat_of_zero_le (show 0 ≤ wd by have := hf.2.2.1; omega)
    simp only [Int.toNat_natCast] at h
    have hd1 : 1 ≤ d ∧ d ≤ 64 := ⟨by have := hf.2.2.1; omega, by have := hf.2.2.2; omega⟩
    split at h
    · omega
    · split at h
      · omega
      · rename_i c1 c2
        have hl : bs.length = sizeN c d := by
          have : ¬ sizeN c d < bs.length := fun h => c2 (.inl h)
          omega
        have hlt : leN bs < 2 ^ (c * d) := by
          rcases Nat.lt_or_ge (leN bs) (2 ^ (c * d)) with h | h
          · exact h
          · exact (c2 (.inr h)).elim
        have hlu : unpL bs (c : Int) (d : Int) = unp (leN bs) d c := by unfold unpL; rw [if_pos h0]; simp
        have hlen : (unp (leN bs) d c).length = c := unp_length _ _ _
        have hfit := unp_fit (leN bs) d c
        have hvn : vn d (unp (leN bs) d c) = leN bs := by rw [vn_unp, Nat.mod_eq_of_lt hlt]
        have hc : fitsP (unp (leN bs) d c).length (d : Int) ∧ Fit (d : Int).toNat (unp (leN bs) d c) := ⟨by rw [hlen]; exact hf, by simpa using hfit⟩
        have h2d : 2 ^ d ≤ 18446744073709551616 := Nat.le_trans (Nat.pow_le_pow_right (by omega) hd1.2) (by decide)
        refine ⟨c, d, unp (leN bs) d c, rfl, rfl, hd1.1, hd1.2, hf, hlu.symm, hlen, ?_, ?_, ?_, ?_, ?_, ?_, ?_⟩
        · intro z hz
          have := hfit z hz
          omega
        · unfold packE; rw [if_pos hc]
        · unfold packL; rw [if_pos hc, Int.toNat_natCast]
          unfold packs
          rw [hvn, hlen, ← hl]
          exact le_leN bs hb
        · unfold unpE
          rw [if_neg (by simpa using hf)]
          simp only [Int.toNat_natCast, List.length_append, List.length_cons, List.length_nil]
          rw [if_neg (by omega), if_pos (.inl (by omega))]
        · intro hpos
          unfold unpE
          rw [if_neg (by simpa using hf)]
          simp only [Int.toNat_natCast]
          rw [sub_length _ _ _ (by omega), if_pos (by omega)]
        · intro i hi
          unfold getV
          rw [if_pos ⟨by omega, by have := hf.2.1; omega, hf.2.2.1, hf.2.2.2⟩]
          simp only [Int.toNat_natCast]
          rw [nth_unp _ _ _ _ hi]; simp
        · intro i hi
          rw [nth_unp _ _ _ _ hi, Int.toNat_natCast]
          have hg := gets_lt (leN bs) i d
          have := (bitLen_fit (gets (leN bs) i d) d (by omega) hd1.2).2 hg
          unfold widthN; omega

set_option maxRecDepth 100000 in
set_option maxHeartbeats 3000000 in
theorem only02_walk (a0 : Option Addr) (cap0 : Nat) (bs : List Int) (n wd : Int) (w : World) (r0 : Rd w .u8 a0 cap0 bs) (hb8 : Bytes8 bs) :
    Calls Try.prog 5 #[.slice a0 bs.length cap0, .int .i64 n, .int .i64 wd] w fun e w' => e = .returned (.bool true) ∧ Kp [] w w' := by
  obtain ⟨l, hl⟩ : ∃ l, l = bs.length := ⟨_, rfl⟩
  rw [← hl]
  have HL := Lib.hid hl
  have HR := Lib.hid r0
  have HB := Lib.hid hb8
  clear r0 hb8 hl
  by_cases h1 : 1000 < l
  · go_enter Try.func5, Try.ntmps5
    go_wp2_with (go_at_call 11; refine (known02 _).mono ?_; rintro e w' ⟨rfl, kp⟩)
    go_ret
    exact ⟨rfl, kp⟩
  by_cases h2 : 8000 < n
  · go_enter Try.func5, Try.ntmps5
    go_wp2_with (go_at_call 11; refine (known02 _).mono ?_; rintro e w' ⟨rfl, kp⟩)
    go_ret
    exact ⟨rfl, kp⟩
  have hun := unpack_any a0 cap0 l bs HL.out n wd w HR.out HB.out (by omega)
  unfold UnpPost at hun
  by_cases he : unpE bs n wd = 0
  · obtain ⟨c, d, lu, rfl, rfl, hd1, hd2, hf, hlu, hlc, hu64, p1, p2, p3, p4, p5, p6⟩ := only_law bs n wd HB.out he
    rw [he, ← hlu, hlc] at hun
    have hpk := fun a1 cap1 wx h => pack_all a1 cap1 c (d : Int) lu hlc.symm wx h hu64 (by omega)
    rw [p1, p2, ← HL.out] at hpk
    have hu3 := fun a1 cap1 wx h => unpack_any a1 cap1 (l + 1) (bs ++ [0]) (by rw [List.length_append, ← HL.out]; rfl) (c : Int) (d : Int) wx h (bytes8_append HB.out (by intro z hz; simp at hz; omega)) (by omega)
    unfold UnpPost at hu3
    rw [p3] at hu3
    have hu4 := fun a1 cap1 wx (h0 : 0 < l) h => unpack_any a1 cap1 (l - 1) (sub bs 0 (l - 1)) (by rw [sub_length _ _ _ (by rw [← HL.out]; omega)]; omega) (c : Int) (d : Int) wx h (HB.out.sub _ _) (by omega)
    rw [← HL.out] at p4
    have HUN := Lib.hid hun
    have HPK := Lib.hid hpk
    have HU3 := Lib.hid hu3
    have HU4 := Lib.hid hu4
    have P4 := Lib.hid p4
    have P5 := Lib.hid p5
    have P6 := Lib.hid p6
    have HU64 := Lib.hid hu64
    have HLC := Lib.hid hlc
    clear hun hpk hu3 hu4 p1 p2 p3 p4 p5 p6 hu64 hlc hlu he hf
    have hc8 : c ≤ 8000 := by omega
    go_enter Try.func5, Try.ntmps5
    go_wp2_with fail
    refine HUN.out.mono ?_
    rintro e w1 ⟨ad1, cap1, rfl, ho1, kp1⟩
    have HO1 := Lib.hid ho1
    have kw1 := kp1
    clear ho1 kp1
    go_wp2_with fail
    refine (HPK.out ad1 cap1 w1 HO1.out.rd).mono ?_
    rintro e w2 ⟨ad2, cap2, rfl, ho2, kp2⟩
    have HO2 := Lib.hid ho2
    have HO12 := Lib.hid (HO1.out.keep0 kp2)
    have kw2 := kw1.tr kp2
    have HR2 := Lib.hid (HR.out.keep0 kw2)
    have hz2 := kw2.size
    clear ho2 kp2 kw1 HO1
    go_wp2_with (first
      | (at_builtin; refine wpList_app rfl (.tmp 41) (.tmp 42) 24 24 rfl w.heap.size 5 .u8 1 Try.underlying24 infoU8 (some ⟨w2.heap.size, 0, none⟩) 0 0 [] rfl bs _ l HL.out rfl rfl (.inl ⟨rfl, rfl⟩) (by rw [HL.out]; exact src_rd (HR2.out.alloc _) Try.underlying24) (by omega) (by omega) (by simp; omega) ?_; intro ad3 cap3 w3 ho3 kp3 hob3 _)
      | (at_builtin; refine wpList_app rfl (.tmp 43) (.tmp 44) 24 24 rfl w.heap.size 5 .u8 1 Try.underlying24 infoU8 ad3 cap3 l ([] ++ bs) (by rw [List.nil_append]; exact HL.out) [0] _ 1 rfl rfl rfl (ho3.alloc _) (src_one Try.underlying24 (World.cell?_alloc_at _ _ _ _ rfl)) (by omega) (by omega) (by have := kp3.size; simp at this; simp; omega) ?_; intro ad4 cap4 w4 ho4 kp4 hob4 _))
    have k23 : Kp [] w2 w3 := ((Kp.refl [] w2).alloc _).trans kp3 (by simp) (by simp [ob])
    have k24 : Kp [] w2 w4 := (k23.alloc _).trans kp4 (by simp) (fun x hx => by
      rcases hob3 x hx with h | h
      · simp [ob] at h
      · rw [World.size_alloc] at h; exact .inr (by omega))
    rw [List.nil_append] at ho4
    have HO4 := Lib.hid ho4
    have HO24 := Lib.hid (HO2.out.keep0 k24)
    have HO14 := Lib.hid (HO12.out.keep0 k24)
    have kw4 := kw2.tr k24
    clear ho3 ho4 kp3 kp4 hob3 hob4 k23 k24 kw2 HO2 HO12
    refine (HU3.out ad4 cap4 w4 HO4.out.rd).mono ?_
    rintro e w5 ⟨ad5, cap5, rfl, -, kp5⟩
    have kw5 := kw4.tr kp5
    have HO25 := Lib.hid (HO24.out.keep0 kp5)
    have HO15 := Lib.hid (HO14.out.keep0 kp5)
    have hcv2 := conv_str (P := Try.prog) w5 24 9 5 Try.underlying24 Try.underlying5 Try.underlying9 ad2 cap2 l bs HO25.out.rd HL.out
    have hcv0 := conv_str (P := Try.prog) w5 24 9 5 Try.underlying24 Try.underlying5 Try.underlying9 a0 cap0 l bs (HR.out.keep0 kw5) HL.out
    clear kp5 kw4 HO24 HO14 HO4
    go_wp2_with fail
    clear hcv2 hcv0
    go_loopw [72] (fun vi wr => ∃ k : Nat, k ≤ c ∧ vi = .int .i64 k ∧ Kp [] w5 wr) (fun vi _ => c - (intOf vi).toNat)
    case atStart => exact ⟨0, Nat.zero_le _, rfl, Kp.refl _ _⟩
    case round =>
      obtain ⟨k, hk, rfl, kp⟩ := hrel
      have kwr := kw5.tr kp
      by_cases hlt : k < c
      · have hkl : k < lu.length := by rw [HLC.out]; exact hlt
        obtain ⟨b, off, rfl, hc⟩ := (HO15.out.rd.keep0 kp).2.2 k hkl
        have hxb := HU64.out _ (nth_mem hkl)
        obtain ⟨x, hx⟩ := Int.eq_ofNat_of_zero_le hxb.1
        have hg := P5.out k hlt
        have hw := P6.out k hlt
        rw [hx] at hc hxb
        rw [hx, Int.toNat_natCast] at hg hw
        have HX64 : Hid (x < 18446744073709551616) := Lib.hid (by omega)
        have hgt := fun wx h => pget_all a0 cap0 l bs HL.out (k : Int) (d : Int) wx h HB.out
        rw [hg] at hgt
        have HGT := Lib.hid hgt
        have CX := Lib.hid hc
        have hw2 : ¬ d < widthN x := by omega
        have HRW := Lib.hid (HR.out.keep0 kwr)
        clear hx hxb hc hkl hg hgt hw
        go_wp2_with fail
        refine wp_region_K (by kernel_rfl) [.val (.slice a0 l cap0), .val (.int .i64 (k : Int)), .val (.int .i64 (d : Int)), .val (.int .u64 (x : Int)), .val (.slice (some ⟨b, off, none⟩) c cap1), .val (.int .i64 (k : Int)), .val (.pointer (some ⟨b, off + k, none⟩)), .val (.int .u64 (x : Int)), .val (.bool false), .val (.bool false), .val (.slice (some ⟨b, off, none⟩) c cap1), .val (.int .i64 (k : Int)), .val (.pointer (some ⟨b, off + k, none⟩)), .val (.int .u64 (x : Int)), .val (.int .i64 (widthN x : Int)), .val (.int .i64 (d : Int)), .val (.bool false), .val (.bool false)] [[(0, none)], [(13, none)], [(2, none)], [(75, some 0), (76, some 1), (77, some 2)], [(7, none)], [(13, none)], [(79, some 4), (80, some 5)], [(81, some 6)], [(78, some 3), (82, some 7)], [(83, some 8)], [(84, some 9), (7, none)], [(84, some 9), (13, none)], [(84, some 9), (85, some 10), (86, some 11)], [(84, some 9), (87, some 12)], [(84, some 9), (88, some 13)], [(84, some 9), (2, none)], [(84, some 9), (89, some 14), (90, some 15)], [(84, some 9), (91, some 16)]] rfl (by kernel_rfl) ?_ ?_
        · refine ⟨?o0, ?o1, ?o2, ?o3, ?o4, ?o5, ?o6, ?o7, ?o8, ?o9, ?o10, ?o11, ?o12, ?o13, ?o14, ?o15, ?o16, ?o17, trivial⟩
          case o0 => intro aR wR hR; replace hR := hR.undrew; intro (h0 : aR.tmps[0]? = some (.slice a0 l cap0)); exact exec_val (c := .slice a0 l cap0) (wanted_none rfl) (by go_simp) rfl
          case o1 => intro aR wR hR; replace hR := hR.undrew; intro (h13 : aR.tmps[13]? = some (.int .i64 (k : Int))); exact exec_val (c := .int .i64 (k : Int)) (wanted_none rfl) (by go_simp) rfl
          case o2 => intro aR wR hR; replace hR := hR.undrew; intro (h2 : aR.tmps[2]? = some (.int .i64 (d : Int))); exact exec_val (c := .int .i64 (d : Int)) (wanted_none rfl) (by go_simp) rfl
          case o3 => intro aR wR hR; replace hR := hR.undrew; intro v75 h75 e75; replace e75 : v75 = .slice a0 l cap0 := e75; subst e75; intro v76 h76 e76; replace e76 : v76 = .int .i64 (k : Int) := e76; subst e76; intro v77 h77 e77; replace e77 : v77 = .int .i64 (d : Int) := e77; subst e77; refine exec_call (wanted_none rfl) (by go_simp; exact ⟨rfl, rfl⟩) ?_; refine (HGT.out _ (HRW.out.keep0 hR)).mono ?_; rintro e w7 ⟨rfl, rfl⟩; exact ⟨_, rfl, rfl, Kp.refl _ _⟩
          case o4 => intro aR wR hR; replace hR := hR.undrew; intro (h7 : aR.tmps[7]? = some (.slice (some ⟨b, off, none⟩) c cap1)); exact exec_val (c := .slice (some ⟨b, off, none⟩) c cap1) (wanted_none rfl) (by go_simp) rfl
          case o5 => intro aR wR hR; replace hR := hR.undrew; intro (h13 : aR.tmps[13]? = some (.int .i64 (k : Int))); exact exec_val (c := .int .i64 (k : Int)) (wanted_none rfl) (by go_simp) rfl
          case o6 => intro aR wR hR; replace hR := hR.undrew; intro v79 h79 e79; replace e79 : v79 = .slice (some ⟨b, off, none⟩) c cap1 := e79; subst e79; intro v80 h80 e80; replace e80 : v80 = .int .i64 (k : Int) := e80; subst e80; (skip); exact exec_val (c := .pointer (some ⟨b, off + k, none⟩)) (wanted_none rfl) (by go_simp) rfl
          case o7 => intro aR wR hR; replace hR := hR.undrew; intro v81 h81 e81; replace e81 : v81 = .pointer (some ⟨b, off + k, none⟩) := e81; subst e81; (have hcell := hR.cell CX.out (by simp)); exact exec_val (c := .int .u64 (x : Int)) (wanted_none rfl) (by go_simp) rfl
          case o8 => intro aR wR hR; replace hR := hR.undrew; intro v78 h78 e78; replace e78 : v78 = .int .u64 (x : Int) := e78; subst e78; intro v82 h82 e82; replace e82 : v82 = .int .u64 (x : Int) := e82; subst e82; exact exec_val (c := .bool false) (wanted_none rfl) (by go_simp) rfl
          case o9 => intro aR wR hR; replace hR := hR.undrew; intro v83 h83 e83; replace e83 : v83 = .bool false := e83; subst e83; exact exec_val (c := .bool false) (wanted_none rfl) (by go_simp) rfl
          case o10 => intro aR wR hR; replace hR := hR.undrew; intro v84 h84 e84; replace e84 : v84 = .bool false := e84; subst e84; intro (h7 : aR.tmps[7]? = some (.slice (some ⟨b, off, none⟩) c cap1)); exact exec_val (c := .slice (some ⟨b, off, none⟩) c cap1) (wanted_yes (b := false) (t := 84) rfl rfl h84) (by go_simp) rfl
          case o11 => intro aR wR hR; replace hR := hR.undrew; intro v84 h84 e84; replace e84 : v84 = .bool false := e84; subst e84; intro (h13 : aR.tmps[13]? = some (.int .i64 (k : Int))); exact exec_val (c := .int .i64 (k : Int)) (wanted_yes (b := false) (t := 84) rfl rfl h84) (by go_simp) rfl
          case o12 => intro aR wR hR; replace hR := hR.undrew; intro v84 h84 e84; replace e84 : v84 = .bool false := e84; subst e84; intro v85 h85 e85; replace e85 : v85 = .slice (some ⟨b, off, none⟩) c cap1 := e85; subst e85; intro v86 h86 e86; replace e86 : v86 = .int .i64 (k : Int) := e86; subst e86; (skip); exact exec_val (c := .pointer (some ⟨b, off + k, none⟩)) (wanted_yes (b := false) (t := 84) rfl rfl h84) (by go_simp) rfl
          case o13 => intro aR wR hR; replace hR := hR.undrew; intro v84 h84 e84; replace e84 : v84 = .bool false := e84; subst e84; intro v87 h87 e87; replace e87 : v87 = .pointer (some ⟨b, off + k, none⟩) := e87; subst e87; (have hcell := hR.cell CX.out (by simp)); exact exec_val (c := .int .u64 (x : Int)) (wanted_yes (b := false) (t := 84) rfl rfl h84) (by go_simp) rfl
          case o14 => intro aR wR hR; replace hR := hR.undrew; intro v84 h84 e84; replace e84 : v84 = .bool false := e84; subst e84; intro v88 h88 e88; replace e88 : v88 = .int .u64 (x : Int) := e88; subst e88; refine exec_call (wanted_yes (b := false) (t := 84) rfl rfl h84) (by go_simp; exact ⟨rfl, rfl⟩) ?_; refine (r02width_any x _ HX64.out).mono ?_; rintro e w7 ⟨rfl, rfl⟩; exact ⟨_, rfl, rfl, Kp.refl _ _⟩
          case o15 => intro aR wR hR; replace hR := hR.undrew; intro v84 h84 e84; replace e84 : v84 = .bool false := e84; subst e84; intro (h2 : aR.tmps[2]? = some (.int .i64 (d : Int))); exact exec_val (c := .int .i64 (d : Int)) (wanted_yes (b := false) (t := 84) rfl rfl h84) (by go_simp) rfl
          case o16 => intro aR wR hR; replace hR := hR.undrew; intro v84 h84 e84; replace e84 : v84 = .bool false := e84; subst e84; intro v89 h89 e89; replace e89 : v89 = .int .i64 (widthN x : Int) := e89; subst e89; intro v90 h90 e90; replace e90 : v90 = .int .i64 (d : Int) := e90; subst e90; exact exec_val (c := .bool false) (wanted_yes (b := false) (t := 84) rfl rfl h84) (by go_simp) rfl
          case o17 => intro aR wR hR; replace hR := hR.undrew; intro v84 h84 e84; replace e84 : v84 = .bool false := e84; subst e84; intro v91 h91 e91; replace e91 : v91 = .bool false := e91; subst e91; exact exec_val (c := .bool false) (wanted_none rfl) (by go_simp) rfl
        · intro vs wR hR hV
          obtain ⟨e0, e1, e2, e3, e4, e5, e6, e7, e8, e9, e10, e11, e12, e13, e14, e15, e16, e17, -⟩ := hV
          replace e0 : vs 0 = .slice a0 l cap0 := e0
          replace e1 : vs 1 = .int .i64 (k : Int) := e1
          replace e2 : vs 2 = .int .i64 (d : Int) := e2
          replace e3 : vs 3 = .int .u64 (x : Int) := e3
          replace e4 : vs 4 = .slice (some ⟨b, off, none⟩) c cap1 := e4
          replace e5 : vs 5 = .int .i64 (k : Int) := e5
          replace e6 : vs 6 = .pointer (some ⟨b, off + k, none⟩) := e6
          replace e7 : vs 7 = .int .u64 (x : Int) := e7
          replace e8 : vs 8 = .bool false := e8
          replace e9 : vs 9 = .bool false := e9
          replace e10 : vs 10 = .slice (some ⟨b, off, none⟩) c cap1 := e10
          replace e11 : vs 11 = .int .i64 (k : Int) := e11
          replace e12 : vs 12 = .pointer (some ⟨b, off + k, none⟩) := e12
          replace e13 : vs 13 = .int .u64 (x : Int) := e13
          replace e14 : vs 14 = .int .i64 (widthN x : Int) := e14
          replace e15 : vs 15 = .int .i64 (d : Int) := e15
          replace e16 : vs 16 = .bool false := e16
          replace e17 : vs 17 = .bool false := e17
          simp only [putAll, e0, e1, e2, e3, e4, e5, e6, e7, e8, e9, e10, e11, e12, e13, e14, e15, e16, e17, Nat.reduceAdd, Nat.zero_add]
          clear e0 e1 e2 e3 e4 e5 e6 e7 e8 e9 e10 e11 e12 e13 e14 e15 e16 e17
          try simp only [List.setIfInBounds_toArray, List.set_cons_succ, List.set_cons_zero]
          go_wp2_with fail
          go_roundw
          case rel => exact ⟨k + 1, hlt, by go_num, kp.tr hR⟩
          case measure => simp [intOf]; omega
      · by_cases h0 : 0 < l
        · have hcap := (HR.out.keep0 kwr).1
          have hlc : l ≤ cap0 := by have := HL.out; omega
          have hcap2 := HR.out.2.1
          obtain ⟨l1, hl1⟩ : ∃ l1, l1 = l - 1 := ⟨_, rfl⟩
          have e1 : IntKind.i64.wrap ((l : Int) - 1) = (l1 : Int) := by rw [IntWalk.i64_in _ (by omega)]; omega
          have hl1c : l1 ≤ cap0 := by omega
          have ha0 : ∀ x : Addr, x.add 0 = x := fun _ => rfl
          have hu4 := HU4.out a0 cap0 wr h0 ((HR.out.keep0 kwr).head (by rw [← HL.out]; omega))
          unfold UnpPost at hu4
          rw [P4.out h0, ← hl1] at hu4
          have HU5 := Lib.hid hu4
          clear hl1 hu4 hcap
          go_wp2_with fail
          refine HU5.out.mono ?_
          rintro e w6 ⟨ad6, cap6, rfl, -, kp6⟩
          go_wp2_with (go_at_call 11; refine (known02 _).mono ?_; rintro e w7 ⟨rfl, kp7⟩)
          go_ret
          exact ⟨rfl, (kwr.tr kp6).tr kp7⟩
        · have h0' : l = 0 := by omega
          subst h0'
          go_wp2_with (go_at_call 11; refine (known02 _).mono ?_; rintro e w7 ⟨rfl, kp7⟩)
          go_ret
          exact ⟨rfl, kwr.tr kp7⟩
  · generalize unpE bs n wd = ec at *
    generalize unpL bs n wd = lu at *
    have he' : (ec != 0) = true := by rw [bne_iff_ne]; exact he
    have HUN := Lib.hid hun
    clear hun
    go_enter Try.func5, Try.ntmps5
    go_wp2_with fail
    refine HUN.out.mono ?_
    rintro e w1 ⟨ad1, cap1, rfl, -, kp1⟩
    go_wp2_with (go_at_call 11; refine (known02 _).mono ?_; rintro e w7 ⟨rfl, kp7⟩)
    go_ret
    exact ⟨rfl, kp1.tr kp7⟩
end Go.Proofs.Ytgdiffabnalidaa
