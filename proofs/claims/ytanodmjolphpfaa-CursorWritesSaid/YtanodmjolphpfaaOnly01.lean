/-
  The walk of CursorOnly.
-/
import Derived.Test.YtanodmjolphpfaaLaw01
import Derived.Test.YtanodmjolphpfaaRegionB
import Derived.Deep.DeepCutAuto
namespace Go.Proofs.Ytanodmjolphpfaa
open Go.RowKit
set_option linter.unusedSimpArgs false
set_option linter.unusedVariables false

theorem appUint_nil (n m : Nat) (hm : m = (short n).length) (w : World) (hn : n < 18446744073709551616) :
    Calls Try.prog 27 #[.slice none 0 0, .int .u64 (n : Int)] w fun e w' => ∃ ad cap, e = .returned (.slice ad m cap) ∧ Own w' w.heap.size 5 .u8 ad cap (short n) ∧ Kp [] w w' := by
  refine (appUint_any none 0 0 (n : Int) [] rfl w ⟨by simp, by omega, by simp⟩ (by omega) (by omega) (by omega)).mono ?_
  rintro e w1 ⟨ad, cap, rfl, ho, kp⟩
  rw [Int.toNat_natCast] at ho ⊢
  rw [← hm, Nat.zero_add]
  exact ⟨ad, cap, rfl, by simpa using ho, kp⟩
theorem r01short_n (n m : Nat) (hm : m = (short n).length) (w : World) (hn : n < 18446744073709551616) :
    Calls Try.prog 29 #[.int .u64 (n : Int)] w fun e w' => ∃ ad cap, e = .returned (.slice ad m cap) ∧ Own w' w.heap.size 5 .u8 ad cap (short n) ∧ Kp [] w w' := by
  refine (r01short_any (n : Int) w (by omega) (by omega)).mono ?_
  rw [Int.toNat_natCast, ← hm]
  exact fun _ _ h => h

set_option maxRecDepth 100000 in
set_option maxHeartbeats 2000000 in
theorem only01_walk (a0 : Option Addr) (cap0 : Nat) (bs : List Int) (w : World) (r0 : Rd w .u8 a0 cap0 bs) (hb8 : Bytes8 bs) :
    Calls Try.prog 7 #[.slice a0 bs.length cap0] w fun e w' => e = .returned (.bool true) ∧ Kp [] w w' := by
  obtain ⟨l, hl⟩ : ∃ l, l = bs.length := ⟨_, rfl⟩
  rw [← hl]
  have HL := Lib.hid hl
  have HR := Lib.hid r0
  have HB := Lib.hid hb8
  clear hl r0 hb8
  by_cases h1 : 100 < l
  · go_enter Try.func7, Try.ntmps7
    go_wp2_with (go_at_call 23; refine (known01 _).mono ?_; rintro e w' ⟨rfl, kp⟩)
    go_ret
    exact ⟨rfl, kp⟩
  go_enter Try.func7, Try.ntmps7
  go_wp2_with fail
  refine (cnew_any a0 cap0 l bs HL.out w HR.out (by omega)).mono ?_
  rintro e w1 ⟨p, rfl, hp0, hp, kp1⟩
  have HP := Lib.hid hp
  clear hp
  go_wp2_with fail
  by_cases hs : ∃ n, Stands bs 0 n
  · obtain ⟨n, hs⟩ := hs
    obtain ⟨m, hm⟩ : ∃ m, m = (short n).length := ⟨_, rfl⟩
    have hm1 : 1 ≤ m ∧ m ≤ 10 := by rw [hm]; exact short_length n
    have hml : m ≤ l := by have := hs.2.1; have := HL.out; omega
    have HS := Lib.hid hs
    have HM := Lib.hid hm
    have HSB : Hid (sub bs 0 m = short n) := Lib.hid (by rw [← hs.2.2, ← hm, Nat.zero_add])
    have hcap := HR.out.1
    have hlc : l ≤ cap0 := by have := HL.out; omega
    have hcap2 := HR.out.2.1
    clear hs hm hcap
    refine (cuint_yes p bs 0 n m w1 HP.out HB.out HS.out HM.out).mono ?_
    rintro e w2 ⟨rfl, hp2, kp2⟩
    rw [Nat.zero_add] at hp2
    have kw2 : Kp [] w w2 := kp1.trans kp2 (by simp) (by intro x hx; simp at hx; exact .inr (by omega))
    have HP2 := Lib.hid hp2
    have HR2 := Lib.hid (HR.out.keep0 kw2)
    clear hp2 kp2 kp1 HP HR
    go_wp2_with (go_at_call 32; refine (cbad_any p bs m false _ HP2.out).mono ?_; rintro e w' ⟨rfl, rfl⟩)
    refine wp_region_K (by kernel_rfl) [.val (.int .u64 (n : Int)), .own w2.heap.size 5 .u8 m (short n), .val (.string (strOfNums (short n))), .val (.slice a0 l cap0), .val (.pointer (some ⟨p, 0, none⟩)), .val (.int .i64 (m : Int)), .val (.slice a0 m cap0), .val (.string (strOfNums (short n))), .val (.bool true), .val (.bool true), .val (.int .u64 (n : Int)), .own w2.heap.size 5 .u8 m (short n), .val (.string (strOfNums (short n))), .val (.slice a0 l cap0), .val (.pointer (some ⟨p, 0, none⟩)), .val (.int .i64 (m : Int)), .val (.slice a0 m cap0), .val (.string (strOfNums (short n))), .val (.bool true), .val (.bool true), .val (.bool true), .val (.bool true), .val (.bool true), .val (.bool true)] [[(4, none)], [(18, some 0)], [(19, some 1)], [(0, none)], [(3, none)], [(22, some 4)], [(21, some 3), (23, some 5)], [(24, some 6)], [(20, some 2), (25, some 7)], [(26, some 8)], [(27, some 9), (4, none)], [(27, some 9), (28, some 10)], [(27, some 9), (29, some 11)], [(27, some 9), (0, none)], [(27, some 9), (3, none)], [(27, some 9), (32, some 14)], [(27, some 9), (31, some 13), (33, some 15)], [(27, some 9), (34, some 16)], [(27, some 9), (30, some 12), (35, some 17)], [(27, some 9), (36, some 18)], [(37, some 19)], [(38, some 20)], [(38, some 20), (39, some 21)], [(40, some 22)]] rfl (by kernel_rfl) ?_ ?_
    · refine ⟨?o0, ?o1, ?o2, ?o3, ?o4, ?o5, ?o6, ?o7, ?o8, ?o9, ?o10, ?o11, ?o12, ?o13, ?o14, ?o15, ?o16, ?o17, ?o18, ?o19, ?o20, ?o21, ?o22, ?o23, trivial⟩
      case o0 => intro aR wR hR; replace hR := hR.undrew; intro (h4 : aR.tmps[4]? = some (.int .u64 (n : Int))); exact exec_val (c := .int .u64 (n : Int)) (wanted_none rfl) (by go_simp) rfl
      case o1 => intro aR wR hR; replace hR := hR.undrew; intro v18 h18 e18; replace e18 : v18 = .int .u64 (n : Int) := e18; subst e18; refine exec_call (wanted_none rfl) (by go_simp; exact ⟨rfl, rfl⟩) ?_; refine (appUint_nil n m HM.out _ HS.out.1).mono ?_; rintro e w3 ⟨ad, cap, rfl, ho, kp⟩; exact ⟨_, rfl, ⟨ad, cap, rfl, ho.mono hR.size⟩, kp⟩
      case o2 => intro aR wR hR; replace hR := hR.undrew; intro v19 h19 e19; obtain ⟨ad, cap, rfl, ho⟩ := e19; have hcv := conv_str wR 40 9 5 Try.underlying40 Try.underlying5 Try.underlying9 ad cap m (short n) ho.rd HM.out; exact exec_val (c := .string (strOfNums (short n))) (wanted_none rfl) (by go_simp) rfl
      case o3 => intro aR wR hR; replace hR := hR.undrew; intro (h0 : aR.tmps[0]? = some (.slice a0 l cap0)); exact exec_val (c := .slice a0 l cap0) (wanted_none rfl) (by go_simp) rfl
      case o4 => intro aR wR hR; replace hR := hR.undrew; intro (h3 : aR.tmps[3]? = some (.pointer (some ⟨p, 0, none⟩))); exact exec_val (c := .pointer (some ⟨p, 0, none⟩)) (wanted_none rfl) (by go_simp) rfl
      case o5 => intro aR wR hR; replace hR := hR.undrew; intro v22 h22 e22; replace e22 : v22 = .pointer (some ⟨p, 0, none⟩) := e22; subst e22; refine exec_call (wanted_none rfl) (by go_simp; exact ⟨rfl, rfl⟩) ?_; refine (cat_any p bs m false _ (HP2.out.keep hR)).mono ?_; rintro e w3 ⟨rfl, rfl⟩; exact ⟨_, rfl, rfl, Kp.refl _ _⟩
      case o6 => intro aR wR hR; replace hR := hR.undrew; intro v21 h21 e21; replace e21 : v21 = .slice a0 l cap0 := e21; subst e21; intro v23 h23 e23; replace e23 : v23 = .int .i64 (m : Int) := e23; subst e23; have hc8 : ¬ ((cap0 : Int) < (m : Int)) := (by omega); have hc9 : ¬ (cap0 < m) := (by omega); have ha0 : ∀ x : Addr, x.add 0 = x := fun _ => rfl; exact exec_val (c := .slice a0 m cap0) (wanted_none rfl) (by go_simp) rfl
      case o7 => intro aR wR hR; replace hR := hR.undrew; intro v24 h24 e24; replace e24 : v24 = .slice a0 m cap0 := e24; subst e24; have hcv := conv_str wR 40 9 5 Try.underlying40 Try.underlying5 Try.underlying9 a0 cap0 m (short n) (by rw [← HSB.out]; exact (HR2.out.keep0 hR).head (by have := HL.out; omega)) HM.out; exact exec_val (c := .string (strOfNums (short n))) (wanted_none rfl) (by go_simp) rfl
      case o8 => intro aR wR hR; replace hR := hR.undrew; intro v20 h20 e20; replace e20 : v20 = .string (strOfNums (short n)) := e20; subst e20; intro v25 h25 e25; replace e25 : v25 = .string (strOfNums (short n)) := e25; subst e25; exact exec_val (c := .bool true) (wanted_none rfl) (by go_simp) rfl
      case o9 => intro aR wR hR; replace hR := hR.undrew; intro v26 h26 e26; replace e26 : v26 = .bool true := e26; subst e26; exact exec_val (c := .bool true) (wanted_none rfl) (by go_simp) rfl
      case o10 => intro aR wR hR; replace hR := hR.undrew; intro v27 h27 e27; replace e27 : v27 = .bool true := e27; subst e27; intro (h4 : aR.tmps[4]? = some (.int .u64 (n : Int))); exact exec_val (c := .int .u64 (n : Int)) (wanted_yes (b := true) (t := 27) rfl rfl h27) (by go_simp) rfl
      case o11 => intro aR wR hR; replace hR := hR.undrew; intro v27 h27 e27; replace e27 : v27 = .bool true := e27; subst e27; intro v28 h28 e28; replace e28 : v28 = .int .u64 (n : Int) := e28; subst e28; refine exec_call (wanted_yes (b := true) (t := 27) rfl rfl h27) (by go_simp; exact ⟨rfl, rfl⟩) ?_; refine (r01short_n n m HM.out _ HS.out.1).mono ?_; rintro e w3 ⟨ad, cap, rfl, ho, kp⟩; exact ⟨_, rfl, ⟨ad, cap, rfl, ho.mono hR.size⟩, kp⟩
      case o12 => intro aR wR hR; replace hR := hR.undrew; intro v27 h27 e27; replace e27 : v27 = .bool true := e27; subst e27; intro v29 h29 e29; obtain ⟨ad, cap, rfl, ho⟩ := e29; have hcv := conv_str wR 40 9 5 Try.underlying40 Try.underlying5 Try.underlying9 ad cap m (short n) ho.rd HM.out; exact exec_val (c := .string (strOfNums (short n))) (wanted_yes (b := true) (t := 27) rfl rfl h27) (by go_simp) rfl
      case o13 => intro aR wR hR; replace hR := hR.undrew; intro v27 h27 e27; replace e27 : v27 = .bool true := e27; subst e27; intro (h0 : aR.tmps[0]? = some (.slice a0 l cap0)); exact exec_val (c := .slice a0 l cap0) (wanted_yes (b := true) (t := 27) rfl rfl h27) (by go_simp) rfl
      case o14 => intro aR wR hR; replace hR := hR.undrew; intro v27 h27 e27; replace e27 : v27 = .bool true := e27; subst e27; intro (h3 : aR.tmps[3]? = some (.pointer (some ⟨p, 0, none⟩))); exact exec_val (c := .pointer (some ⟨p, 0, none⟩)) (wanted_yes (b := true) (t := 27) rfl rfl h27) (by go_simp) rfl
      case o15 => intro aR wR hR; replace hR := hR.undrew; intro v27 h27 e27; replace e27 : v27 = .bool true := e27; subst e27; intro v32 h32 e32; replace e32 : v32 = .pointer (some ⟨p, 0, none⟩) := e32; subst e32; refine exec_call (wanted_yes (b := true) (t := 27) rfl rfl h27) (by go_simp; exact ⟨rfl, rfl⟩) ?_; refine (cat_any p bs m false _ (HP2.out.keep hR)).mono ?_; rintro e w3 ⟨rfl, rfl⟩; exact ⟨_, rfl, rfl, Kp.refl _ _⟩
      case o16 => intro aR wR hR; replace hR := hR.undrew; intro v27 h27 e27; replace e27 : v27 = .bool true := e27; subst e27; intro v31 h31 e31; replace e31 : v31 = .slice a0 l cap0 := e31; subst e31; intro v33 h33 e33; replace e33 : v33 = .int .i64 (m : Int) := e33; subst e33; have hc8 : ¬ ((cap0 : Int) < (m : Int)) := (by omega); have hc9 : ¬ (cap0 < m) := (by omega); have ha0 : ∀ x : Addr, x.add 0 = x := fun _ => rfl; exact exec_val (c := .slice a0 m cap0) (wanted_yes (b := true) (t := 27) rfl rfl h27) (by go_simp) rfl
      case o17 => intro aR wR hR; replace hR := hR.undrew; intro v27 h27 e27; replace e27 : v27 = .bool true := e27; subst e27; intro v34 h34 e34; replace e34 : v34 = .slice a0 m cap0 := e34; subst e34; have hcv := conv_str wR 40 9 5 Try.underlying40 Try.underlying5 Try.underlying9 a0 cap0 m (short n) (by rw [← HSB.out]; exact (HR2.out.keep0 hR).head (by have := HL.out; omega)) HM.out; exact exec_val (c := .string (strOfNums (short n))) (wanted_yes (b := true) (t := 27) rfl rfl h27) (by go_simp) rfl
      case o18 => intro aR wR hR; replace hR := hR.undrew; intro v27 h27 e27; replace e27 : v27 = .bool true := e27; subst e27; intro v30 h30 e30; replace e30 : v30 = .string (strOfNums (short n)) := e30; subst e30; intro v35 h35 e35; replace e35 : v35 = .string (strOfNums (short n)) := e35; subst e35; exact exec_val (c := .bool true) (wanted_yes (b := true) (t := 27) rfl rfl h27) (by go_simp) rfl
      case o19 => intro aR wR hR; replace hR := hR.undrew; intro v27 h27 e27; replace e27 : v27 = .bool true := e27; subst e27; intro v36 h36 e36; replace e36 : v36 = .bool true := e36; subst e36; exact exec_val (c := .bool true) (wanted_none rfl) (by go_simp) rfl
      case o20 => intro aR wR hR; replace hR := hR.undrew; intro v37 h37 e37; replace e37 : v37 = .bool true := e37; subst e37; exact exec_val (c := .bool true) (wanted_none rfl) (by go_simp) rfl
      case o21 => intro aR wR hR; replace hR := hR.undrew; intro v38 h38 e38; replace e38 : v38 = .bool true := e38; subst e38; refine exec_call (wanted_yes (b := true) (t := 38) rfl rfl h38) (by go_simp; exact ⟨rfl, rfl⟩) ?_; refine (known01 _).mono ?_; rintro e w3 ⟨rfl, kp⟩; exact ⟨_, rfl, rfl, kp⟩
      case o22 => intro aR wR hR; replace hR := hR.undrew; intro v38 h38 e38; replace e38 : v38 = .bool true := e38; subst e38; intro v39 h39 e39; replace e39 : v39 = .bool true := e39; subst e39; exact exec_val (c := .bool true) (wanted_none rfl) (by go_simp) rfl
      case o23 => intro aR wR hR; replace hR := hR.undrew; intro v40 h40 e40; replace e40 : v40 = .bool true := e40; subst e40; exact exec_val (c := .bool true) (wanted_none rfl) (by go_simp) rfl
    · intro vs wR hR hV
      obtain ⟨e0, e1, e2, e3, e4, e5, e6, e7, e8, e9, e10, e11, e12, e13, e14, e15, e16, e17, e18, e19, e20, e21, e22, e23, -⟩ := hV
      replace e0 : vs 0 = .int .u64 (n : Int) := e0
      replace e2 : vs 2 = .string (strOfNums (short n)) := e2
      replace e3 : vs 3 = .slice a0 l cap0 := e3
      replace e4 : vs 4 = .pointer (some ⟨p, 0, none⟩) := e4
      replace e5 : vs 5 = .int .i64 (m : Int) := e5
      replace e6 : vs 6 = .slice a0 m cap0 := e6
      replace e7 : vs 7 = .string (strOfNums (short n)) := e7
      replace e8 : vs 8 = .bool true := e8
      replace e9 : vs 9 = .bool true := e9
      replace e10 : vs 10 = .int .u64 (n : Int) := e10
      replace e12 : vs 12 = .string (strOfNums (short n)) := e12
      replace e13 : vs 13 = .slice a0 l cap0 := e13
      replace e14 : vs 14 = .pointer (some ⟨p, 0, none⟩) := e14
      replace e15 : vs 15 = .int .i64 (m : Int) := e15
      replace e16 : vs 16 = .slice a0 m cap0 := e16
      replace e17 : vs 17 = .string (strOfNums (short n)) := e17
      replace e18 : vs 18 = .bool true := e18
      replace e19 : vs 19 = .bool true := e19
      replace e20 : vs 20 = .bool true := e20
      replace e21 : vs 21 = .bool true := e21
      replace e22 : vs 22 = .bool true := e22
      replace e23 : vs 23 = .bool true := e23
      simp only [putAll, e0, e2, e3, e4, e5, e6, e7, e8, e9, e10, e12, e13, e14, e15, e16, e17, e18, e19, e20, e21, e22, e23, Nat.reduceAdd, Nat.zero_add]
      clear e0 e2 e3 e4 e5 e6 e7 e8 e9 e10 e12 e13 e14 e15 e16 e17 e18 e19 e20 e21 e22 e23
      simp only [List.setIfInBounds_toArray, List.set_cons_succ, List.set_cons_zero]
      go_wp2_with fail
      go_ret
      exact ⟨rfl, kw2.tr hR⟩
  · have hs' : ∀ n, ¬ Stands bs 0 n := fun n h => hs ⟨n, h⟩
    clear hs
    refine (cuint_no p bs 0 w1 HP.out HB.out hs').mono ?_
    rintro e w2 ⟨rfl, hp2, kp2⟩
    have hu := cu8_any p bs 0 true w2 hp2 HB.out
    obtain ⟨q1, q2, q3⟩ := rd_no (bs := bs) (a := 0) (n := 1) (b := true) (by simp)
    rw [q1, q2, q3] at hu
    have HU := Lib.hid hu
    have HP2 := Lib.hid hp2
    have kw2 : Kp [] w w2 := kp1.trans kp2 (by simp) (by intro x hx; simp at hx; exact .inr (by omega))
    clear hp2 kp2 kp1 hu q1 q2 q3 HP hs'
    go_wp2_with fail
    refine (cbad_any p bs 0 true _ HP2.out).mono ?_
    rintro e w' ⟨rfl, rfl⟩
    go_wp2_with fail
    refine (cat_any p bs 0 true _ HP2.out).mono ?_
    rintro e w' ⟨rfl, rfl⟩
    go_wp2_with fail
    refine HU.out.mono ?_
    rintro e w3 ⟨rfl, hp3, kp3⟩
    have kw3 : Kp [] w w3 := kw2.trans kp3 (by simp) (by intro x hx; simp at hx; exact .inr (by omega))
    have HP3 := Lib.hid hp3
    clear hp3 kp3 kw2
    go_wp2_with fail
    refine (cleft_bad p bs 0 _ HP3.out).mono ?_
    rintro e w' ⟨rfl, rfl⟩
    go_wp2_with fail
    refine (cbad_any p bs 0 true _ HP3.out).mono ?_
    rintro e w' ⟨rfl, rfl⟩
    go_wp2_with fail
    refine (cat_any p bs 0 true _ HP3.out).mono ?_
    rintro e w' ⟨rfl, rfl⟩
    go_wp2_with fail
    refine (known01 _).mono ?_
    rintro e w4 ⟨rfl, kp4⟩
    go_wp2_with fail
    go_ret
    exact ⟨rfl, kw3.tr kp4⟩
end Go.Proofs.Ytanodmjolphpfaa
