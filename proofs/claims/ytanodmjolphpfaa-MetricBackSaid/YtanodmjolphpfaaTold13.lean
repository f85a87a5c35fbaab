/-
  The walk of told, which MetricDoes and MetricReads call.
-/
import Derived.Test.YtanodmjolphpfaaLaw13
import Derived.Test.YtanodmjolphpfaaRef13
import Derived.Test.YtanodmjolphpfaaRegion
import Derived.Deep.DeepCutAuto
namespace Go.Proofs.Ytanodmjolphpfaa
open Go.RowKit
set_option linter.unusedSimpArgs false
set_option linter.unusedVariables false

/-- What Some tells, whatever is asked. -/
def may (zs : List Int) (a b : Int) : Prop := 0 ≤ a ∧ a ≤ b ∧ b ≤ zs.length
instance (zs : List Int) (a b : Int) : Decidable (may zs a b) := by unfold may; infer_instance
def somel (zs : List Int) (a b : Int) : List Int := if may zs a b then sub zs a.toNat b.toNat else []
def somee (zs : List Int) (a b : Int) : Int := if may zs a b then 0 else 2

theorem somel_le (zs : List Int) (a b : Int) : (somel zs a b).length ≤ zs.length := by
  unfold somel; split
  · simp [sub]; omega
  · simp

theorem some_any (c : Nat) (zs : List Int) (a b : Int) (w : World) (h : IsCol w c zs) :
    Calls Try.prog 20 #[.pointer (some ⟨c, 0, none⟩), .int .i64 a, .int .i64 b] w fun e w' => ∃ ad cap, e = .returned (.tuple #[.slice ad (somel zs a b).length cap, .int .i64 (somee zs a b)]) ∧
      Own w' w.heap.size 2 .i64 ad cap (somel zs a b) ∧ Kp [] w w' := by
  by_cases hm : may zs a b
  · have hm' := hm
    obtain ⟨h1, h2, h3⟩ := hm'
    obtain ⟨x, rfl⟩ := Int.eq_ofNat_of_zero_le h1
    obtain ⟨y, rfl⟩ := Int.eq_ofNat_of_zero_le (show 0 ≤ b by omega)
    have hxy : x ≤ y := by omega
    have hyl : y ≤ zs.length := by omega
    have hcap : zs.length ≤ 16777216 := let ⟨_, _, h, _⟩ := h; h
    refine (some_ok c zs x y w h hxy hyl).mono ?_
    rintro e w' ⟨q, he, h4, h5, h6⟩
    have hl := sub_length zs x y hyl
    have e1 : somel zs x y = sub zs x y := by simp only [somel, if_pos hm, Int.toNat_natCast]
    refine ⟨some ⟨q, 0, none⟩, y - x, ?_, ?_, h6⟩
    · rw [he, e1, hl, somee, if_pos hm]
    · rw [e1]
      have := Own.row (k := .i64) (zs := sub zs x y) (base := w.heap.size) h4 h5 (by omega)
      rwa [hl] at this
  · refine (some_bad c zs a b w h hm).mono ?_
    rintro e w' ⟨he, rfl⟩
    refine ⟨none, 0, ?_, ?_, Kp.refl _ _⟩
    · rw [he, somee, if_neg hm, somel, if_neg hm]; rfl
    · rw [somel, if_neg hm]; exact Own.nil _ _ _ _

theorem bytes_n (c : Nat) (zs : List Int) (n : Nat) (hn : n = zs.length) (w : World) (h : IsCol w c zs) :
    Calls Try.prog 22 #[.pointer (some ⟨c, 0, none⟩)] w fun e w' => ∃ ad cap, e = .returned (.slice ad (20 + 8 * n) cap) ∧ Own w' w.heap.size 5 .u8 ad cap (colBytes zs) ∧ Kp [] w w' := by
  subst hn; exact bytes_len c zs w h

set_option maxRecDepth 100000 in
set_option maxHeartbeats 2000000 in
theorem told_any (c : Nat) (zs : List Int) (a0 : Option Addr) (cap0 n : Nat) (hn : n = zs.length) (x y : Int) (w : World) (hc : IsCol w c zs) (hr : Rd w .i64 a0 cap0 zs) (hb : zs.length ≤ 100000) :
    Calls Try.prog 18 #[.pointer (some ⟨c, 0, none⟩), .slice a0 n cap0, .int .i64 x, .int .i64 y] w fun e w' => e = .returned (.bool true) ∧ Kp [] w w' := by
  obtain ⟨s, hs⟩ : ∃ s, s = somel zs x y := ⟨_, rfl⟩
  obtain ⟨ec, hec⟩ : ∃ ec, ec = somee zs x y := ⟨_, rfl⟩
  obtain ⟨m, hm⟩ : ∃ m, m = s.length := ⟨_, rfl⟩
  have hsome := fun wx (h : IsCol wx c zs) => some_any c zs x y wx h
  rw [← hs, ← hec, ← hm] at hsome
  have HSM := Lib.hid hsome
  have HS := Lib.hid hs
  have HE := Lib.hid hec
  have HM := Lib.hid hm
  have HN := Lib.hid hn
  have HR := Lib.hid hr
  have HC := Lib.hid hc
  have hb : n ≤ 100000 := by omega
  have hml : m ≤ 100000 := by rw [hm, hs]; have := somel_le zs x y; omega
  clear hn hr hc hsome hs hec hm
  go_enter Try.func18, Try.ntmps18
  go_wp2_with fail
  refine (r13ends_any a0 cap0 zs n HN.out w HR.out).mono ?_
  rintro e w' ⟨rfl, rfl⟩
  go_wp2_with fail
  refine (HSM.out w HC.out).mono ?_
  rintro e w1 ⟨adS, capS, rfl, hoS, kp1⟩
  have HO := Lib.hid hoS
  clear hoS
  obtain ⟨mb, hmb⟩ : ∃ mb : Bool, mb = decide (may zs x y) := ⟨_, rfl⟩
  have HB := Lib.hid hmb
  clear hmb
  go_upto_region 5 with (fail)
  go_cut [44] (fun v44 wx => v44 = .bool mb ∧ w1 = wx)
  case first =>
    have e1 : mb = (decide (0 ≤ x) && (decide (x ≤ y) && decide (y ≤ (n : Int)))) := by rw [HB.out, HN.out, Bool.eq_iff_iff, decide_eq_true_iff]; simp [may]
    have E1 := Lib.hid e1
    clear e1
    by_cases h1 : 0 ≤ x <;> by_cases h2 : x ≤ y <;> by_cases h3 : y ≤ (n : Int)
    all_goals (go_wp2_with fail; go_meet; refine ⟨?_, rfl⟩; refine congrArg Value.bool ?_; rw [E1.out]; simp [h1, h2, h3])
  obtain ⟨rfl, rfl⟩ := hcut
  go_upto_if 44 with (fail)
  go_cut [13, 14] (fun v13 v14 wx => ∃ adW capW, v13 = .slice adW m capW ∧ v14 = .int .i64 ec ∧ Rd w1 .i64 adW capW s ∧ w1 = wx)
  case first =>
    by_cases hmay : may zs x y
    · have e1 : mb = true := by rw [HB.out]; exact decide_eq_true hmay
      subst e1
      obtain ⟨g1, g2, g3⟩ := hmay
      obtain ⟨x', rfl⟩ := Int.eq_ofNat_of_zero_le g1
      obtain ⟨y', rfl⟩ := Int.eq_ofNat_of_zero_le (show 0 ≤ y by omega)
      have es : s = sub zs x' y' := by rw [HS.out]; simp only [somel, if_pos (show may zs x' y' from ⟨g1, g2, g3⟩), Int.toNat_natCast]
      have ee : ec = 0 := by rw [HE.out]; simp only [somee, if_pos (show may zs x' y' from ⟨g1, g2, g3⟩)]
      have ES := Lib.hid es
      have em : m = y' - x' := by rw [HM.out, es]; exact sub_length _ _ _ (by omega)
      have EM := Lib.hid em
      subst ee
      have t1 : x' ≤ y' := by omega
      have t2 : y' ≤ n := by have := HN.out; omega
      have hcap := HR.out.1
      have t3 : n ≤ cap0 := by have := HN.out; omega
      have t4 := HR.out.2.1
      clear es em g1 g2 g3 hcap
      by_cases hcx : cap0 = x'
      · subst hcx
        go_wp2_with fail
        go_meet
        exact ⟨a0, 0, by rw [EM.out], rfl, by rw [ES.out]; exact Rd.slice_end (by omega), rfl⟩
      · go_wp2_with fail
        go_meet
        exact ⟨_, _, by rw [EM.out], rfl, by rw [ES.out]; exact (HR.out.keep0 kp1).slice t1 (by have := HN.out; omega), rfl⟩
    · have e1 : mb = false := by rw [HB.out]; exact decide_eq_false hmay
      subst e1
      have es : s = [] := by rw [HS.out]; simp only [somel, if_neg hmay]
      have ee : ec = 2 := by rw [HE.out]; simp only [somee, if_neg hmay]
      have em : m = 0 := by rw [HM.out, es]; rfl
      subst em
      subst ee
      go_wp2_with fail
      go_meet
      exact ⟨none, 0, rfl, rfl, by rw [es]; exact ⟨by simp, by omega, by simp⟩, rfl⟩
  case rest =>
    obtain ⟨adW, capW, rfl, rfl, hrW, rfl⟩ := hcut
    have HW := Lib.hid hrW
    clear hrW
    go_wp2_with fail
    refine wp_region_K (by kernel_rfl) [.val (.pointer (some ⟨c, 0, none⟩)), .val (.int .i64 (n : Int)), .val (.slice a0 n cap0), .val (.int .i64 ((n : Nat) : Int)), .val (.bool false), .val (.bool false), .val (.pointer (some ⟨c, 0, none⟩)), .val (.int .i64 (lows zs)), .val (.int .i64 (lows zs)), .val (.bool false), .val (.bool false), .val (.bool false), .val (.pointer (some ⟨c, 0, none⟩)), .val (.int .i64 (highs zs)), .val (.int .i64 (highs zs)), .val (.bool false), .val (.bool false), .val (.bool false), .val (.slice adS m capS), .val (.slice adW m capW), .val (.bool true), .val (.bool false), .val (.bool false), .val (.bool false), .val (.int .i64 ec), .val (.int .i64 ec), .val (.bool false), .val (.bool false), .val (.bool false), .val (.pointer (some ⟨c, 0, none⟩)), .own w1.heap.size 5 .u8 (20 + 8 * n) (colBytes zs), .val (.string (strOfNums (colBytes zs))), .val (.slice a0 n cap0), .own w1.heap.size 5 .u8 (20 + 8 * n) (colBytes zs), .val (.string (strOfNums (colBytes zs))), .val (.bool false), .val (.bool false)] [[(0, none)], [(49, some 0)], [(1, none)], [(51, some 2)], [(50, some 1), (52, some 3)], [(53, some 4)], [(54, some 5), (0, none)], [(54, some 5), (55, some 6)], [(54, some 5), (9, none)], [(54, some 5), (56, some 7), (57, some 8)], [(54, some 5), (58, some 9)], [(59, some 10)], [(60, some 11), (0, none)], [(60, some 11), (61, some 12)], [(60, some 11), (10, none)], [(60, some 11), (62, some 13), (63, some 14)], [(60, some 11), (64, some 15)], [(65, some 16)], [(66, some 17), (11, none)], [(66, some 17), (13, none)], [(66, some 17), (67, some 18), (68, some 19)], [(66, some 17), (69, some 20)], [(66, some 17), (70, some 21)], [(71, some 22)], [(72, some 23), (12, none)], [(72, some 23), (14, none)], [(72, some 23), (73, some 24), (74, some 25)], [(72, some 23), (75, some 26)], [(76, some 27)], [(77, some 28), (0, none)], [(77, some 28), (78, some 29)], [(77, some 28), (79, some 30)], [(77, some 28), (1, none)], [(77, some 28), (81, some 32)], [(77, some 28), (82, some 33)], [(77, some 28), (80, some 31), (83, some 34)], [(77, some 28), (84, some 35)]] rfl (by kernel_rfl) ?_ ?_
    · refine ⟨?o0, ?o1, ?o2, ?o3, ?o4, ?o5, ?o6, ?o7, ?o8, ?o9, ?o10, ?o11, ?o12, ?o13, ?o14, ?o15, ?o16, ?o17, ?o18, ?o19, ?o20, ?o21, ?o22, ?o23, ?o24, ?o25, ?o26, ?o27, ?o28, ?o29, ?o30, ?o31, ?o32, ?o33, ?o34, ?o35, ?o36, trivial⟩
      case o0 => intro aR wR hR; replace hR := hR.undrew; intro (h0 : aR.tmps[0]? = some (.pointer (some ⟨c, 0, none⟩))); exact exec_val (c := .pointer (some ⟨c, 0, none⟩)) (wanted_none rfl) (by go_simp) rfl
      case o1 => intro aR wR hR; replace hR := hR.undrew; intro v49 h49 e49; replace e49 : v49 = .pointer (some ⟨c, 0, none⟩) := e49; subst e49; refine exec_call (wanted_none rfl) (by go_simp; exact ⟨rfl, rfl⟩) ?_; refine (len_any c zs _ (HC.out.keep (kp1.trans hR (by simp) (by simp)))).mono ?_; rintro e w2 ⟨rfl, rfl⟩; exact ⟨_, rfl, by rw [HN.out]; rfl, Kp.refl _ _⟩
      case o2 => intro aR wR hR; replace hR := hR.undrew; intro (h1 : aR.tmps[1]? = some (.slice a0 n cap0)); exact exec_val (c := .slice a0 n cap0) (wanted_none rfl) (by go_simp) rfl
      case o3 => intro aR wR hR; replace hR := hR.undrew; intro v51 h51 e51; replace e51 : v51 = .slice a0 n cap0 := e51; subst e51; exact exec_val (c := .int .i64 ((n : Nat) : Int)) (wanted_none rfl) (by go_simp) rfl
      case o4 => intro aR wR hR; replace hR := hR.undrew; intro v50 h50 e50; replace e50 : v50 = .int .i64 (n : Int) := e50; subst e50; intro v52 h52 e52; replace e52 : v52 = .int .i64 ((n : Nat) : Int) := e52; subst e52; exact exec_val (c := .bool false) (wanted_none rfl) (by go_simp) rfl
      case o5 => intro aR wR hR; replace hR := hR.undrew; intro v53 h53 e53; replace e53 : v53 = .bool false := e53; subst e53; exact exec_val (c := .bool false) (wanted_none rfl) (by go_simp) rfl
      case o6 => intro aR wR hR; replace hR := hR.undrew; intro v54 h54 e54; replace e54 : v54 = .bool false := e54; subst e54; intro (h0 : aR.tmps[0]? = some (.pointer (some ⟨c, 0, none⟩))); exact exec_val (c := .pointer (some ⟨c, 0, none⟩)) (wanted_yes (b := false) (t := 54) rfl rfl h54) (by go_simp) rfl
      case o7 => intro aR wR hR; replace hR := hR.undrew; intro v54 h54 e54; replace e54 : v54 = .bool false := e54; subst e54; intro v55 h55 e55; replace e55 : v55 = .pointer (some ⟨c, 0, none⟩) := e55; subst e55; refine exec_call (wanted_yes (b := false) (t := 54) rfl rfl h54) (by go_simp; exact ⟨rfl, rfl⟩) ?_; refine (least_any c zs _ (HC.out.keep (kp1.trans hR (by simp) (by simp)))).mono ?_; rintro e w2 ⟨rfl, rfl⟩; exact ⟨_, rfl, rfl, Kp.refl _ _⟩
      case o8 => intro aR wR hR; replace hR := hR.undrew; intro v54 h54 e54; replace e54 : v54 = .bool false := e54; subst e54; intro (h9 : aR.tmps[9]? = some (.int .i64 (lows zs))); exact exec_val (c := .int .i64 (lows zs)) (wanted_yes (b := false) (t := 54) rfl rfl h54) (by go_simp) rfl
      case o9 => intro aR wR hR; replace hR := hR.undrew; intro v54 h54 e54; replace e54 : v54 = .bool false := e54; subst e54; intro v56 h56 e56; replace e56 : v56 = .int .i64 (lows zs) := e56; subst e56; intro v57 h57 e57; replace e57 : v57 = .int .i64 (lows zs) := e57; subst e57; exact exec_val (c := .bool false) (wanted_yes (b := false) (t := 54) rfl rfl h54) (by go_simp) rfl
      case o10 => intro aR wR hR; replace hR := hR.undrew; intro v54 h54 e54; replace e54 : v54 = .bool false := e54; subst e54; intro v58 h58 e58; replace e58 : v58 = .bool false := e58; subst e58; exact exec_val (c := .bool false) (wanted_none rfl) (by go_simp) rfl
      case o11 => intro aR wR hR; replace hR := hR.undrew; intro v59 h59 e59; replace e59 : v59 = .bool false := e59; subst e59; exact exec_val (c := .bool false) (wanted_none rfl) (by go_simp) rfl
      case o12 => intro aR wR hR; replace hR := hR.undrew; intro v60 h60 e60; replace e60 : v60 = .bool false := e60; subst e60; intro (h0 : aR.tmps[0]? = some (.pointer (some ⟨c, 0, none⟩))); exact exec_val (c := .pointer (some ⟨c, 0, none⟩)) (wanted_yes (b := false) (t := 60) rfl rfl h60) (by go_simp) rfl
      case o13 => intro aR wR hR; replace hR := hR.undrew; intro v60 h60 e60; replace e60 : v60 = .bool false := e60; subst e60; intro v61 h61 e61; replace e61 : v61 = .pointer (some ⟨c, 0, none⟩) := e61; subst e61; refine exec_call (wanted_yes (b := false) (t := 60) rfl rfl h60) (by go_simp; exact ⟨rfl, rfl⟩) ?_; refine (greatest_any c zs _ (HC.out.keep (kp1.trans hR (by simp) (by simp)))).mono ?_; rintro e w2 ⟨rfl, rfl⟩; exact ⟨_, rfl, rfl, Kp.refl _ _⟩
      case o14 => intro aR wR hR; replace hR := hR.undrew; intro v60 h60 e60; replace e60 : v60 = .bool false := e60; subst e60; intro (h10 : aR.tmps[10]? = some (.int .i64 (highs zs))); exact exec_val (c := .int .i64 (highs zs)) (wanted_yes (b := false) (t := 60) rfl rfl h60) (by go_simp) rfl
      case o15 => intro aR wR hR; replace hR := hR.undrew; intro v60 h60 e60; replace e60 : v60 = .bool false := e60; subst e60; intro v62 h62 e62; replace e62 : v62 = .int .i64 (highs zs) := e62; subst e62; intro v63 h63 e63; replace e63 : v63 = .int .i64 (highs zs) := e63; subst e63; exact exec_val (c := .bool false) (wanted_yes (b := false) (t := 60) rfl rfl h60) (by go_simp) rfl
      case o16 => intro aR wR hR; replace hR := hR.undrew; intro v60 h60 e60; replace e60 : v60 = .bool false := e60; subst e60; intro v64 h64 e64; replace e64 : v64 = .bool false := e64; subst e64; exact exec_val (c := .bool false) (wanted_none rfl) (by go_simp) rfl
      case o17 => intro aR wR hR; replace hR := hR.undrew; intro v65 h65 e65; replace e65 : v65 = .bool false := e65; subst e65; exact exec_val (c := .bool false) (wanted_none rfl) (by go_simp) rfl
      case o18 => intro aR wR hR; replace hR := hR.undrew; intro v66 h66 e66; replace e66 : v66 = .bool false := e66; subst e66; intro (h11 : aR.tmps[11]? = some (.slice adS m capS)); exact exec_val (c := .slice adS m capS) (wanted_yes (b := false) (t := 66) rfl rfl h66) (by go_simp) rfl
      case o19 => intro aR wR hR; replace hR := hR.undrew; intro v66 h66 e66; replace e66 : v66 = .bool false := e66; subst e66; intro (h13 : aR.tmps[13]? = some (.slice adW m capW)); exact exec_val (c := .slice adW m capW) (wanted_yes (b := false) (t := 66) rfl rfl h66) (by go_simp) rfl
      case o20 => intro aR wR hR; replace hR := hR.undrew; intro v66 h66 e66; replace e66 : v66 = .bool false := e66; subst e66; intro v67 h67 e67; replace e67 : v67 = .slice adS m capS := e67; subst e67; intro v68 h68 e68; replace e68 : v68 = .slice adW m capW := e68; subst e68; refine exec_call (wanted_yes (b := false) (t := 66) rfl rfl h66) (by go_simp; exact ⟨rfl, rfl⟩) ?_; refine (r13same_yes adS adW capS capW s m HM.out _ (HO.out.rd.keep0 hR) (HW.out.keep0 hR)).mono ?_; rintro e w2 ⟨rfl, kp⟩; exact ⟨_, rfl, rfl, kp⟩
      case o21 => intro aR wR hR; replace hR := hR.undrew; intro v66 h66 e66; replace e66 : v66 = .bool false := e66; subst e66; intro v69 h69 e69; replace e69 : v69 = .bool true := e69; subst e69; exact exec_val (c := .bool false) (wanted_yes (b := false) (t := 66) rfl rfl h66) (by go_simp) rfl
      case o22 => intro aR wR hR; replace hR := hR.undrew; intro v66 h66 e66; replace e66 : v66 = .bool false := e66; subst e66; intro v70 h70 e70; replace e70 : v70 = .bool false := e70; subst e70; exact exec_val (c := .bool false) (wanted_none rfl) (by go_simp) rfl
      case o23 => intro aR wR hR; replace hR := hR.undrew; intro v71 h71 e71; replace e71 : v71 = .bool false := e71; subst e71; exact exec_val (c := .bool false) (wanted_none rfl) (by go_simp) rfl
      case o24 => intro aR wR hR; replace hR := hR.undrew; intro v72 h72 e72; replace e72 : v72 = .bool false := e72; subst e72; intro (h12 : aR.tmps[12]? = some (.int .i64 ec)); exact exec_val (c := .int .i64 ec) (wanted_yes (b := false) (t := 72) rfl rfl h72) (by go_simp) rfl
      case o25 => intro aR wR hR; replace hR := hR.undrew; intro v72 h72 e72; replace e72 : v72 = .bool false := e72; subst e72; intro (h14 : aR.tmps[14]? = some (.int .i64 ec)); exact exec_val (c := .int .i64 ec) (wanted_yes (b := false) (t := 72) rfl rfl h72) (by go_simp) rfl
      case o26 => intro aR wR hR; replace hR := hR.undrew; intro v72 h72 e72; replace e72 : v72 = .bool false := e72; subst e72; intro v73 h73 e73; replace e73 : v73 = .int .i64 ec := e73; subst e73; intro v74 h74 e74; replace e74 : v74 = .int .i64 ec := e74; subst e74; exact exec_val (c := .bool false) (wanted_yes (b := false) (t := 72) rfl rfl h72) (by go_simp) rfl
      case o27 => intro aR wR hR; replace hR := hR.undrew; intro v72 h72 e72; replace e72 : v72 = .bool false := e72; subst e72; intro v75 h75 e75; replace e75 : v75 = .bool false := e75; subst e75; exact exec_val (c := .bool false) (wanted_none rfl) (by go_simp) rfl
      case o28 => intro aR wR hR; replace hR := hR.undrew; intro v76 h76 e76; replace e76 : v76 = .bool false := e76; subst e76; exact exec_val (c := .bool false) (wanted_none rfl) (by go_simp) rfl
      case o29 => intro aR wR hR; replace hR := hR.undrew; intro v77 h77 e77; replace e77 : v77 = .bool false := e77; subst e77; intro (h0 : aR.tmps[0]? = some (.pointer (some ⟨c, 0, none⟩))); exact exec_val (c := .pointer (some ⟨c, 0, none⟩)) (wanted_yes (b := false) (t := 77) rfl rfl h77) (by go_simp) rfl
      case o30 => intro aR wR hR; replace hR := hR.undrew; intro v77 h77 e77; replace e77 : v77 = .bool false := e77; subst e77; intro v78 h78 e78; replace e78 : v78 = .pointer (some ⟨c, 0, none⟩) := e78; subst e78; refine exec_call (wanted_yes (b := false) (t := 77) rfl rfl h77) (by go_simp; exact ⟨rfl, rfl⟩) ?_; refine (bytes_n c zs n HN.out _ (HC.out.keep (kp1.trans hR (by simp) (by simp)))).mono ?_; rintro e w2 ⟨ad, cap, rfl, ho, kp⟩; exact ⟨_, rfl, ⟨ad, cap, rfl, ho.mono hR.size⟩, kp⟩
      case o31 => intro aR wR hR; replace hR := hR.undrew; intro v77 h77 e77; replace e77 : v77 = .bool false := e77; subst e77; intro v79 h79 e79; obtain ⟨ad, cap, rfl, ho⟩ := e79; have hcv := conv_str wR 40 9 5 Try.underlying40 Try.underlying5 Try.underlying9 ad cap (20 + 8 * n) (colBytes zs) ho.rd (by rw [colBytes_length, HN.out]); exact exec_val (c := .string (strOfNums (colBytes zs))) (wanted_yes (b := false) (t := 77) rfl rfl h77) (by go_simp) rfl
      case o32 => intro aR wR hR; replace hR := hR.undrew; intro v77 h77 e77; replace e77 : v77 = .bool false := e77; subst e77; intro (h1 : aR.tmps[1]? = some (.slice a0 n cap0)); exact exec_val (c := .slice a0 n cap0) (wanted_yes (b := false) (t := 77) rfl rfl h77) (by go_simp) rfl
      case o33 => intro aR wR hR; replace hR := hR.undrew; intro v77 h77 e77; replace e77 : v77 = .bool false := e77; subst e77; intro v81 h81 e81; replace e81 : v81 = .slice a0 n cap0 := e81; subst e81; refine exec_call (wanted_yes (b := false) (t := 77) rfl rfl h77) (by go_simp; exact ⟨rfl, rfl⟩) ?_; refine (r13bytes_any a0 cap0 zs n HN.out _ (HR.out.keep0 (kp1.trans hR (by simp) (by simp))) (by have := HN.out; omega)).mono ?_; rintro e w2 ⟨ad, cap, rfl, ho, kp⟩; exact ⟨_, rfl, ⟨ad, cap, rfl, ho.mono hR.size⟩, kp⟩
      case o34 => intro aR wR hR; replace hR := hR.undrew; intro v77 h77 e77; replace e77 : v77 = .bool false := e77; subst e77; intro v82 h82 e82; obtain ⟨ad, cap, rfl, ho⟩ := e82; have hcv := conv_str wR 40 9 5 Try.underlying40 Try.underlying5 Try.underlying9 ad cap (20 + 8 * n) (colBytes zs) ho.rd (by rw [colBytes_length, HN.out]); exact exec_val (c := .string (strOfNums (colBytes zs))) (wanted_yes (b := false) (t := 77) rfl rfl h77) (by go_simp) rfl
      case o35 => intro aR wR hR; replace hR := hR.undrew; intro v77 h77 e77; replace e77 : v77 = .bool false := e77; subst e77; intro v80 h80 e80; replace e80 : v80 = .string (strOfNums (colBytes zs)) := e80; subst e80; intro v83 h83 e83; replace e83 : v83 = .string (strOfNums (colBytes zs)) := e83; subst e83; exact exec_val (c := .bool false) (wanted_yes (b := false) (t := 77) rfl rfl h77) (by go_simp) rfl
      case o36 => intro aR wR hR; replace hR := hR.undrew; intro v77 h77 e77; replace e77 : v77 = .bool false := e77; subst e77; intro v84 h84 e84; replace e84 : v84 = .bool false := e84; subst e84; exact exec_val (c := .bool false) (wanted_none rfl) (by go_simp) rfl
    · intro vs wR hR hV
      obtain ⟨e0, e1, e2, e3, e4, e5, e6, e7, e8, e9, e10, e11, e12, e13, e14, e15, e16, e17, e18, e19, e20, e21, e22, e23, e24, e25, e26, e27, e28, e29, e30, e31, e32, e33, e34, e35, e36, -⟩ := hV
      replace e0 : vs 0 = .pointer (some ⟨c, 0, none⟩) := e0
      replace e1 : vs 1 = .int .i64 (n : Int) := e1
      replace e2 : vs 2 = .slice a0 n cap0 := e2
      replace e3 : vs 3 = .int .i64 ((n : Nat) : Int) := e3
      replace e4 : vs 4 = .bool false := e4
      replace e5 : vs 5 = .bool false := e5
      replace e6 : vs 6 = .pointer (some ⟨c, 0, none⟩) := e6
      replace e7 : vs 7 = .int .i64 (lows zs) := e7
      replace e8 : vs 8 = .int .i64 (lows zs) := e8
      replace e9 : vs 9 = .bool false := e9
      replace e10 : vs 10 = .bool false := e10
      replace e11 : vs 11 = .bool false := e11
      replace e12 : vs 12 = .pointer (some ⟨c, 0, none⟩) := e12
      replace e13 : vs 13 = .int .i64 (highs zs) := e13
      replace e14 : vs 14 = .int .i64 (highs zs) := e14
      replace e15 : vs 15 = .bool false := e15
      replace e16 : vs 16 = .bool false := e16
      replace e17 : vs 17 = .bool false := e17
      replace e18 : vs 18 = .slice adS m capS := e18
      replace e19 : vs 19 = .slice adW m capW := e19
      replace e20 : vs 20 = .bool true := e20
      replace e21 : vs 21 = .bool false := e21
      replace e22 : vs 22 = .bool false := e22
      replace e23 : vs 23 = .bool false := e23
      replace e24 : vs 24 = .int .i64 ec := e24
      replace e25 : vs 25 = .int .i64 ec := e25
      replace e26 : vs 26 = .bool false := e26
      replace e27 : vs 27 = .bool false := e27
      replace e28 : vs 28 = .bool false := e28
      replace e29 : vs 29 = .pointer (some ⟨c, 0, none⟩) := e29
      replace e31 : vs 31 = .string (strOfNums (colBytes zs)) := e31
      replace e32 : vs 32 = .slice a0 n cap0 := e32
      replace e34 : vs 34 = .string (strOfNums (colBytes zs)) := e34
      replace e35 : vs 35 = .bool false := e35
      replace e36 : vs 36 = .bool false := e36
      simp only [putAll, e0, e1, e2, e3, e4, e5, e6, e7, e8, e9, e10, e11, e12, e13, e14, e15, e16, e17, e18, e19, e20, e21, e22, e23, e24, e25, e26, e27, e28, e29, e31, e32, e34, e35, e36, Nat.reduceAdd, Nat.zero_add]
      clear e0 e1 e2 e3 e4 e5 e6 e7 e8 e9 e10 e11 e12 e13 e14 e15 e16 e17 e18 e19 e20 e21 e22 e23 e24 e25 e26 e27 e28 e29 e31 e32 e34 e35 e36
      simp only [List.setIfInBounds_toArray, List.set_cons_succ, List.set_cons_zero]
      have kwR : Kp [] w wR := kp1.trans hR (by simp) (by simp)
      have hcR := HC.out.keep kwR
      have hoR := HO.out.keep0 hR
      have HOR := Lib.hid hoR
      have hRR := HR.out.keep0 kwR
      have HRR := Lib.hid hRR.2.2
      clear hRR hoR HW hb HE HS
      have hb : n ≤ 100000 := by have := HN.out; omega
      go_wp2_with fail
      go_loop [15] (fun i => ∃ j : Int, -1 ≤ j ∧ j ≤ n + 1 ∧ i = .int .i64 j) (fun i => ((n : Int) + 1 - intOf i).toNat)
      case atStart => exact ⟨-1, by omega, by omega, rfl⟩
      case round =>
        obtain ⟨j, hj1, hj2, rfl⟩ := hrel
        by_cases hjn : j ≤ (n : Int)
        · by_cases hin : 0 ≤ j ∧ j < n
          · obtain ⟨k, rfl⟩ := Int.eq_ofNat_of_zero_le hin.1
            have hk : k < n := by omega
            obtain ⟨b, off, rfl, hcell⟩ := HRR.out k (by rw [← HN.out]; exact hk)
            have eg : getv zs k = nth zs k ∧ gete zs k = 0 := by have := HN.out; simp [getv, gete, show k < zs.length by omega]
            have EG := Lib.hid eg
            clear eg hin
            go_wp2_with (go_at_call 19; refine (get_any c zs _ _ (by assumption)).mono ?_; rw [EG.out.1, EG.out.2]; rintro e w' ⟨rfl, rfl⟩)
            go_round
            case rel => exact ⟨(k : Int) + 1, by omega, by omega, rfl⟩
            case measure => simp [intOf]; omega
          · have eg : getv zs j = 0 ∧ gete zs j = 7 := by have := HN.out; simp only [getv, gete]; rw [← this, if_neg hin, if_neg hin]; exact ⟨rfl, rfl⟩
            have EG := Lib.hid eg
            by_cases h0 : 0 ≤ j
            · have h1 : ¬ j < n := by omega
              clear eg hin
              go_wp2_with (go_at_call 19; refine (get_any c zs _ _ (by assumption)).mono ?_; rw [EG.out.1, EG.out.2]; rintro e w' ⟨rfl, rfl⟩)
              go_round
              case rel => exact ⟨j + 1, by omega, by omega, rfl⟩
              case measure => simp [intOf]; omega
            · clear eg hin
              go_wp2_with (go_at_call 19; refine (get_any c zs _ _ (by assumption)).mono ?_; rw [EG.out.1, EG.out.2]; rintro e w' ⟨rfl, rfl⟩)
              go_round
              case rel => exact ⟨j + 1, by omega, by omega, rfl⟩
              case measure => simp [intOf]; omega
        · skip
          go_wp2_with fail
          go_loopw [133] (fun i wr => ∃ (k : Nat) (s' : List Int), k ≤ m ∧ i = .int .i64 k ∧ s'.length = m ∧ Own wr w.heap.size 2 .i64 adS capS s' ∧ Kp [] w wr) (fun i _ => m - (intOf i).toNat)
          case atStart => exact ⟨0, s, Nat.zero_le _, rfl, HM.out.symm, HOR.out, kwR⟩
          case round =>
            obtain ⟨k, s', hk, rfl, hs', ho', kp'⟩ := hrel
            have HS' := Lib.hid hs'
            clear hs'
            by_cases hlt : k < m
            · obtain ⟨g, rfl, q1, q2, q3, q4⟩ := ho'.at' (i := k) (by rw [HS'.out]; exact hlt)
              go_wp2_with fail
              go_roundw
              case rel => exact ⟨k + 1, s'.set k (RowKit.wrap64 (nth s' k + 1)), hlt, by go_num, by simp [HS'.out], ho'.set k _, kp'.setCell _ _ (.inr q3)⟩
              case measure => simp [intOf]; omega
            · go_wp2_with fail
              go_ret
              exact ⟨rfl, kp'⟩
end Go.Proofs.Ytanodmjolphpfaa
