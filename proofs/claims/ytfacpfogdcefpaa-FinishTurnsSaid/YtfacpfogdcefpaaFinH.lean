/-
  Finishing: whether rows are outputs.
-/
import Derived.Test.YtfacpfogdcefpaaFinF
namespace Go.Proofs.Ytfacpfogdcefpaa
open Go.RowKit Go.Shelf
set_option linter.unusedSimpArgs false
set_option linter.unusedVariables false
set_option maxRecDepth 100000

theorem testSize0_any (out cmp : Int) (v : V3) (w : World) :
    Calls Try.prog 51 #[tstV ⟨0, out, cmp, v⟩] w fun e w' => e = .returned (.int .i64 1) ∧ Kp [] w w' := by
  unfold tstV tstC
  dsimp only
  go_enter Try.func51, Try.ntmps51
  go_wp2_with fail
  go_loopw [3, 4] (fun vk vi wr => vk = .int .i64 1 ∧ vi = .int .i64 0 ∧ wr = w.alloc (.cells #[.int .u8 0, .slice none 0 0, .int .i64 out, .int .u8 cmp, .int .u8 v.k, .int .i64 v.n, .string v.s] 53)) (fun _ _ _ => 0)
  case atStart => exact ⟨rfl, rfl, rfl⟩
  case round =>
    obtain ⟨rfl, rfl, rfl⟩ := hrel
    go_wp2_with fail
    go_ret
    exact ⟨rfl, (Kp.refl [] w).alloc _⟩

theorem may270_any (out cmp : Int) (v : V3) (a : Option Addr) (n c : Nat) (w : World) :
    Calls Try.prog 52 #[tstV ⟨0, out, cmp, v⟩, .slice a n c, .int .i64 1] w fun e w' => e = .returned (.bool true) ∧ Kp [] w w' := by
  unfold tstV tstC
  dsimp only
  by_cases hn : n = 0
  · subst hn
    go_enter Try.func52, Try.ntmps52
    go_wp2_with fail
    go_ret
    exact ⟨rfl, (Kp.refl [] w).alloc _⟩
  · have hnn : ((n : Int) == 0) = false := by simp; omega
    go_enter Try.func52, Try.ntmps52
    go_wp2_with fail
    go_ret
    exact ⟨rfl, (Kp.refl [] w).alloc _⟩

/-- As many values in each row, and not many. -/
def FitR (hs : List Hd) (m : Nat) : Prop := ∀ i, i < m → (rowA hs i).length = (rowA hs 0).length ∧ (rowA hs i).length ≤ 20
def FitB (hs : List Hd) (m : Nat) (e : Ending) : Prop := ∃ b, e = .returned (.bool b) ∧ (b = true → m ≤ 60 ∧ FitR hs m)
theorem fitB_no (hs : List Hd) (m : Nat) : FitB hs m (.returned (.bool false)) := ⟨false, rfl, fun h => by cases h⟩
theorem neI (a b : Nat) (h : ¬ a = b) : ((a : Int) != (b : Int)) = true := by simp; omega
theorem eqJ (a : Nat) : ((a : Int) != (a : Int)) = false := by simp

set_option maxHeartbeats 3200000 in
theorem fit27_any (ra : Option Addr) (rc m : Nat) (hs : List Hd) (hm : m = hs.length) (out cmp : Int) (v : V3) (w : World) (hr : RdR w ra rc hs) :
    Calls Try.prog 26 #[.slice ra m rc, tstV ⟨0, out, cmp, v⟩] w fun e w' => FitB hs m e ∧ Kp [] w w' := by
  have HM := Lib.hid hm
  have HR := Lib.hid hr
  clear hm hr
  have HT : Hid (∀ W, Calls Try.prog 51 #[tstV ⟨0, out, cmp, v⟩] W fun e w' => e = .returned (.int .i64 1) ∧ Kp [] W w') := Lib.hid (fun W => testSize0_any out cmp v W)
  have HMY : Hid (∀ a n c W, Calls Try.prog 52 #[tstV ⟨0, out, cmp, v⟩, .slice a n c, .int .i64 1] W fun e w' => e = .returned (.bool true) ∧ Kp [] W w') := Lib.hid (fun a n c W => may270_any out cmp v a n c W)
  unfold tstV tstC at *
  dsimp only at *
  go_enter Try.func26, Try.ntmps26
  by_cases h60 : (60 : Int) < (m : Int)
  · go_wp2_with fail
    go_ret
    exact ⟨fitB_no _ _, (Kp.refl [] w).alloc _⟩
  · go_wp2_with first
      | (refine wpList_load_row rfl 53 _ rfl w.heap.size rfl 53 #[.int .u8 0, .slice none 0 0, .int .i64 out, .int .u8 cmp, .int .u8 v.k, .int .i64 v.n, .string v.s] (0, 0) _ (heap_alloc_at rfl) Try.underlying53 rfl (by kernel_rfl) ?_)
      | (go_at_call 51; refine (HT.out _).mono ?_; rintro e w2 ⟨rfl, kp2⟩; have K2 := Lib.hid (((Kp.refl [] w).alloc _).tr kp2); have HB := Lib.hid (kp2.get (heap_alloc_at rfl) (by simp)); clear kp2)
    go_loopw [19] (fun vi wr => ∃ i : Nat, i ≤ m ∧ vi = .int .i64 i ∧ Hid (FitR hs i) ∧ Hid (Kp [] w2 wr)) (fun vi _ => m - (intOf vi).toNat)
    case atStart => exact ⟨0, Nat.zero_le _, rfl, Lib.hid (fun i h => by omega), Lib.hid (Kp.refl _ _)⟩
    case round =>
      obtain ⟨i, hi, rfl, HX, HK⟩ := hrel
      obtain ⟨wo, rfl⟩ : ∃ wo : World, wo = wr := ⟨_, rfl⟩
      have HKW := Lib.hid (K2.out.tr HK.out)
      by_cases hlt : i < m
      · obtain ⟨b, off, xa, xn, xc, rfl, c0, hxn, hxr⟩ := (HR.out.keep0 HKW.out).at' i (by rw [← HM.out]; exact hlt)
        obtain ⟨b', off', ya, yn, yc, hq, d0, hyn, hyr⟩ := (HR.out.keep0 HKW.out).at' 0 (by rw [← HM.out]; omega)
        cases hq
        have hm0 : ¬ m = 0 := by omega
        have C0 := Lib.hid c0
        have D0 : Hid (wo.cell? ⟨b, off, none⟩ = some (.slice ya yn yc)) := Lib.hid d0
        have HXR := Lib.hid hxr
        have HYR := Lib.hid hyr
        have HST : Hid (xn = yn → xn ≤ 20 → FitR hs (i + 1)) := Lib.hid (fun h1 h2 j hj => by
          by_cases e : j = i
          · rw [e, ← hxn, ← hyn]; exact ⟨h1, h2⟩
          · exact HX.out j (by omega))
        have HXN := Lib.hid hxn
        have HYN := Lib.hid hyn
        generalize rowA hs i = xr at *
        generalize rowA hs 0 = yr at *
        have hxc := hxr.1
        have hxc2 := hxr.2.1
        rw [← hxn] at hxc
        clear c0 d0 hxn hyn hxr hyr
        by_cases hne : xn = yn
        · subst hne
          have hbb := eqJ xn
          by_cases h20 : (20 : Int) < (xn : Int)
          · go_upto_region 7 with (fail)
            refine wp_region_K (by kernel_rfl) [.val (.slice (some ⟨b, off, none⟩) m rc), .val (.int .i64 (i : Int)), .val (.pointer (some ⟨b, off + i, none⟩)), .val (.slice xa xn xc), .val (.int .i64 ((xn : Nat) : Int)), .val (.slice (some ⟨b, off, none⟩) m rc), .val (.pointer (some ⟨b, off, none⟩)), .val (.slice ya xn yc), .val (.int .i64 ((xn : Nat) : Int)), .val (.bool false), .val (.bool false), .val (.slice (some ⟨b, off, none⟩) m rc), .val (.int .i64 (i : Int)), .val (.pointer (some ⟨b, off + i, none⟩)), .val (.slice xa xn xc), .val (.int .i64 ((xn : Nat) : Int)), .val (.bool true), .val (.bool true)] [[(0, none)], [(6, none)], [(22, some 0), (23, some 1)], [(24, some 2)], [(25, some 3)], [(0, none)], [(27, some 5)], [(28, some 6)], [(29, some 7)], [(26, some 4), (30, some 8)], [(31, some 9)], [(32, some 10), (0, none)], [(32, some 10), (6, none)], [(32, some 10), (33, some 11), (34, some 12)], [(32, some 10), (35, some 13)], [(32, some 10), (36, some 14)], [(32, some 10), (37, some 15)], [(32, some 10), (38, some 16)]] rfl (by kernel_rfl) ?_ ?_
            · refine ⟨?o0, ?o1, ?o2, ?o3, ?o4, ?o5, ?o6, ?o7, ?o8, ?o9, ?o10, ?o11, ?o12, ?o13, ?o14, ?o15, ?o16, ?o17, trivial⟩
              case o0 => intro aR wR hR; replace hR := hR.undrew; intro (h0 : aR.tmps[0]? = some (.slice (some ⟨b, off, none⟩) m rc)); exact exec_val (c := .slice (some ⟨b, off, none⟩) m rc) (wanted_none rfl) (by go_simp) rfl
              case o1 => intro aR wR hR; replace hR := hR.undrew; intro (h6 : aR.tmps[6]? = some (.int .i64 (i : Int))); exact exec_val (c := .int .i64 (i : Int)) (wanted_none rfl) (by go_simp) rfl
              case o2 => intro aR wR hR; replace hR := hR.undrew; intro v22 h22 e22; replace e22 : v22 = .slice (some ⟨b, off, none⟩) m rc := e22; subst e22; intro v23 h23 e23; replace e23 : v23 = .int .i64 (i : Int) := e23; subst e23; exact exec_val (c := .pointer (some ⟨b, off + i, none⟩)) (wanted_none rfl) (by go_simp) rfl
              case o3 => intro aR wR hR; replace hR := hR.undrew; intro v24 h24 e24; replace e24 : v24 = .pointer (some ⟨b, off + i, none⟩) := e24; subst e24; (have h1 := hR.cell C0.out (by simp)); exact exec_val (c := .slice xa xn xc) (wanted_none rfl) (by go_simp) rfl
              case o4 => intro aR wR hR; replace hR := hR.undrew; intro v25 h25 e25; replace e25 : v25 = .slice xa xn xc := e25; subst e25; exact exec_val (c := .int .i64 ((xn : Nat) : Int)) (wanted_none rfl) (by go_simp) rfl
              case o5 => intro aR wR hR; replace hR := hR.undrew; intro (h0 : aR.tmps[0]? = some (.slice (some ⟨b, off, none⟩) m rc)); exact exec_val (c := .slice (some ⟨b, off, none⟩) m rc) (wanted_none rfl) (by go_simp) rfl
              case o6 => intro aR wR hR; replace hR := hR.undrew; intro v27 h27 e27; replace e27 : v27 = .slice (some ⟨b, off, none⟩) m rc := e27; subst e27; exact exec_val (c := .pointer (some ⟨b, off, none⟩)) (wanted_none rfl) (by go_simp) rfl
              case o7 => intro aR wR hR; replace hR := hR.undrew; intro v28 h28 e28; replace e28 : v28 = .pointer (some ⟨b, off, none⟩) := e28; subst e28; (have h1 := hR.cell D0.out (by simp)); exact exec_val (c := .slice ya xn yc) (wanted_none rfl) (by go_simp) rfl
              case o8 => intro aR wR hR; replace hR := hR.undrew; intro v29 h29 e29; replace e29 : v29 = .slice ya xn yc := e29; subst e29; exact exec_val (c := .int .i64 ((xn : Nat) : Int)) (wanted_none rfl) (by go_simp) rfl
              case o9 => intro aR wR hR; replace hR := hR.undrew; intro v26 h26 e26; replace e26 : v26 = .int .i64 ((xn : Nat) : Int) := e26; subst e26; intro v30 h30 e30; replace e30 : v30 = .int .i64 ((xn : Nat) : Int) := e30; subst e30; exact exec_val (c := .bool false) (wanted_none rfl) (by go_simp) rfl
              case o10 => intro aR wR hR; replace hR := hR.undrew; intro v31 h31 e31; replace e31 : v31 = .bool false := e31; subst e31; exact exec_val (c := .bool false) (wanted_none rfl) (by go_simp) rfl
              case o11 => intro aR wR hR; replace hR := hR.undrew; intro v32 h32 e32; replace e32 : v32 = .bool false := e32; subst e32; intro (h0 : aR.tmps[0]? = some (.slice (some ⟨b, off, none⟩) m rc)); exact exec_val (c := .slice (some ⟨b, off, none⟩) m rc) (wanted_yes (b := false) (t := 32) rfl rfl h32) (by go_simp) rfl
              case o12 => intro aR wR hR; replace hR := hR.undrew; intro v32 h32 e32; replace e32 : v32 = .bool false := e32; subst e32; intro (h6 : aR.tmps[6]? = some (.int .i64 (i : Int))); exact exec_val (c := .int .i64 (i : Int)) (wanted_yes (b := false) (t := 32) rfl rfl h32) (by go_simp) rfl
              case o13 => intro aR wR hR; replace hR := hR.undrew; intro v32 h32 e32; replace e32 : v32 = .bool false := e32; subst e32; intro v33 h33 e33; replace e33 : v33 = .slice (some ⟨b, off, none⟩) m rc := e33; subst e33; intro v34 h34 e34; replace e34 : v34 = .int .i64 (i : Int) := e34; subst e34; exact exec_val (c := .pointer (some ⟨b, off + i, none⟩)) (wanted_yes (b := false) (t := 32) rfl rfl h32) (by go_simp) rfl
              case o14 => intro aR wR hR; replace hR := hR.undrew; intro v32 h32 e32; replace e32 : v32 = .bool false := e32; subst e32; intro v35 h35 e35; replace e35 : v35 = .pointer (some ⟨b, off + i, none⟩) := e35; subst e35; (have h1 := hR.cell C0.out (by simp)); exact exec_val (c := .slice xa xn xc) (wanted_yes (b := false) (t := 32) rfl rfl h32) (by go_simp) rfl
              case o15 => intro aR wR hR; replace hR := hR.undrew; intro v32 h32 e32; replace e32 : v32 = .bool false := e32; subst e32; intro v36 h36 e36; replace e36 : v36 = .slice xa xn xc := e36; subst e36; exact exec_val (c := .int .i64 ((xn : Nat) : Int)) (wanted_yes (b := false) (t := 32) rfl rfl h32) (by go_simp) rfl
              case o16 => intro aR wR hR; replace hR := hR.undrew; intro v32 h32 e32; replace e32 : v32 = .bool false := e32; subst e32; intro v37 h37 e37; replace e37 : v37 = .int .i64 ((xn : Nat) : Int) := e37; subst e37; exact exec_val (c := .bool true) (wanted_yes (b := false) (t := 32) rfl rfl h32) (by go_simp) rfl
              case o17 => intro aR wR hR; replace hR := hR.undrew; intro v32 h32 e32; replace e32 : v32 = .bool false := e32; subst e32; intro v38 h38 e38; replace e38 : v38 = .bool true := e38; subst e38; exact exec_val (c := .bool true) (wanted_none rfl) (by go_simp) rfl
            · intro vs wR hR hV
              obtain ⟨e0, e1, e2, e3, e4, e5, e6, e7, e8, e9, e10, e11, e12, e13, e14, e15, e16, e17, -⟩ := hV
              replace e0 : vs 0 = .slice (some ⟨b, off, none⟩) m rc := e0
              replace e1 : vs 1 = .int .i64 (i : Int) := e1
              replace e2 : vs 2 = .pointer (some ⟨b, off + i, none⟩) := e2
              replace e3 : vs 3 = .slice xa xn xc := e3
              replace e4 : vs 4 = .int .i64 ((xn : Nat) : Int) := e4
              replace e5 : vs 5 = .slice (some ⟨b, off, none⟩) m rc := e5
              replace e6 : vs 6 = .pointer (some ⟨b, off, none⟩) := e6
              replace e7 : vs 7 = .slice ya xn yc := e7
              replace e8 : vs 8 = .int .i64 ((xn : Nat) : Int) := e8
              replace e9 : vs 9 = .bool false := e9
              replace e10 : vs 10 = .bool false := e10
              replace e11 : vs 11 = .slice (some ⟨b, off, none⟩) m rc := e11
              replace e12 : vs 12 = .int .i64 (i : Int) := e12
              replace e13 : vs 13 = .pointer (some ⟨b, off + i, none⟩) := e13
              replace e14 : vs 14 = .slice xa xn xc := e14
              replace e15 : vs 15 = .int .i64 ((xn : Nat) : Int) := e15
              replace e16 : vs 16 = .bool true := e16
              replace e17 : vs 17 = .bool true := e17
              simp only [putAll, e0, e1, e2, e3, e4, e5, e6, e7, e8, e9, e10, e11, e12, e13, e14, e15, e16, e17, Nat.reduceAdd, Nat.zero_add]
              clear e0 e1 e2 e3 e4 e5 e6 e7 e8 e9 e10 e11 e12 e13 e14 e15 e16 e17
              try simp only [List.setIfInBounds_toArray, List.set_cons_succ, List.set_cons_zero]
              go_wp2_with fail
              go_ret
              exact ⟨fitB_no _ _, HKW.out.tr hR⟩
          · have h20b : xn ≤ 20 := by omega
            have HX2 := Lib.hid (HST.out rfl h20b)
            have hd20 : decide ((20 : Int) < (xn : Int)) = false := by simpa using h20
            go_upto_region 7 with (fail)
            refine wp_region_K (by kernel_rfl) [.val (.slice (some ⟨b, off, none⟩) m rc), .val (.int .i64 (i : Int)), .val (.pointer (some ⟨b, off + i, none⟩)), .val (.slice xa xn xc), .val (.int .i64 ((xn : Nat) : Int)), .val (.slice (some ⟨b, off, none⟩) m rc), .val (.pointer (some ⟨b, off, none⟩)), .val (.slice ya xn yc), .val (.int .i64 ((xn : Nat) : Int)), .val (.bool false), .val (.bool false), .val (.slice (some ⟨b, off, none⟩) m rc), .val (.int .i64 (i : Int)), .val (.pointer (some ⟨b, off + i, none⟩)), .val (.slice xa xn xc), .val (.int .i64 ((xn : Nat) : Int)), .val (.bool false), .val (.bool false)] [[(0, none)], [(6, none)], [(22, some 0), (23, some 1)], [(24, some 2)], [(25, some 3)], [(0, none)], [(27, some 5)], [(28, some 6)], [(29, some 7)], [(26, some 4), (30, some 8)], [(31, some 9)], [(32, some 10), (0, none)], [(32, some 10), (6, none)], [(32, some 10), (33, some 11), (34, some 12)], [(32, some 10), (35, some 13)], [(32, some 10), (36, some 14)], [(32, some 10), (37, some 15)], [(32, some 10), (38, some 16)]] rfl (by kernel_rfl) ?_ ?_
            · refine ⟨?o0, ?o1, ?o2, ?o3, ?o4, ?o5, ?o6, ?o7, ?o8, ?o9, ?o10, ?o11, ?o12, ?o13, ?o14, ?o15, ?o16, ?o17, trivial⟩
              case o0 => intro aR wR hR; replace hR := hR.undrew; intro (h0 : aR.tmps[0]? = some (.slice (some ⟨b, off, none⟩) m rc)); exact exec_val (c := .slice (some ⟨b, off, none⟩) m rc) (wanted_none rfl) (by go_simp) rfl
              case o1 => intro aR wR hR; replace hR := hR.undrew; intro (h6 : aR.tmps[6]? = some (.int .i64 (i : Int))); exact exec_val (c := .int .i64 (i : Int)) (wanted_none rfl) (by go_simp) rfl
              case o2 => intro aR wR hR; replace hR := hR.undrew; intro v22 h22 e22; replace e22 : v22 = .slice (some ⟨b, off, none⟩) m rc := e22; subst e22; intro v23 h23 e23; replace e23 : v23 = .int .i64 (i : Int) := e23; subst e23; exact exec_val (c := .pointer (some ⟨b, off + i, none⟩)) (wanted_none rfl) (by go_simp) rfl
              case o3 => intro aR wR hR; replace hR := hR.undrew; intro v24 h24 e24; replace e24 : v24 = .pointer (some ⟨b, off + i, none⟩) := e24; subst e24; (have h1 := hR.cell C0.out (by simp)); exact exec_val (c := .slice xa xn xc) (wanted_none rfl) (by go_simp) rfl
              case o4 => intro aR wR hR; replace hR := hR.undrew; intro v25 h25 e25; replace e25 : v25 = .slice xa xn xc := e25; subst e25; exact exec_val (c := .int .i64 ((xn : Nat) : Int)) (wanted_none rfl) (by go_simp) rfl
              case o5 => intro aR wR hR; replace hR := hR.undrew; intro (h0 : aR.tmps[0]? = some (.slice (some ⟨b, off, none⟩) m rc)); exact exec_val (c := .slice (some ⟨b, off, none⟩) m rc) (wanted_none rfl) (by go_simp) rfl
              case o6 => intro aR wR hR; replace hR := hR.undrew; intro v27 h27 e27; replace e27 : v27 = .slice (some ⟨b, off, none⟩) m rc := e27; subst e27; exact exec_val (c := .pointer (some ⟨b, off, none⟩)) (wanted_none rfl) (by go_simp) rfl
              case o7 => intro aR wR hR; replace hR := hR.undrew; intro v28 h28 e28; replace e28 : v28 = .pointer (some ⟨b, off, none⟩) := e28; subst e28; (have h1 := hR.cell D0.out (by simp)); exact exec_val (c := .slice ya xn yc) (wanted_none rfl) (by go_simp) rfl
              case o8 => intro aR wR hR; replace hR := hR.undrew; intro v29 h29 e29; replace e29 : v29 = .slice ya xn yc := e29; subst e29; exact exec_val (c := .int .i64 ((xn : Nat) : Int)) (wanted_none rfl) (by go_simp) rfl
              case o9 => intro aR wR hR; replace hR := hR.undrew; intro v26 h26 e26; replace e26 : v26 = .int .i64 ((xn : Nat) : Int) := e26; subst e26; intro v30 h30 e30; replace e30 : v30 = .int .i64 ((xn : Nat) : Int) := e30; subst e30; exact exec_val (c := .bool false) (wanted_none rfl) (by go_simp) rfl
              case o10 => intro aR wR hR; replace hR := hR.undrew; intro v31 h31 e31; replace e31 : v31 = .bool false := e31; subst e31; exact exec_val (c := .bool false) (wanted_none rfl) (by go_simp) rfl
              case o11 => intro aR wR hR; replace hR := hR.undrew; intro v32 h32 e32; replace e32 : v32 = .bool false := e32; subst e32; intro (h0 : aR.tmps[0]? = some (.slice (some ⟨b, off, none⟩) m rc)); exact exec_val (c := .slice (some ⟨b, off, none⟩) m rc) (wanted_yes (b := false) (t := 32) rfl rfl h32) (by go_simp) rfl
              case o12 => intro aR wR hR; replace hR := hR.undrew; intro v32 h32 e32; replace e32 : v32 = .bool false := e32; subst e32; intro (h6 : aR.tmps[6]? = some (.int .i64 (i : Int))); exact exec_val (c := .int .i64 (i : Int)) (wanted_yes (b := false) (t := 32) rfl rfl h32) (by go_simp) rfl
              case o13 => intro aR wR hR; replace hR := hR.undrew; intro v32 h32 e32; replace e32 : v32 = .bool false := e32; subst e32; intro v33 h33 e33; replace e33 : v33 = .slice (some ⟨b, off, none⟩) m rc := e33; subst e33; intro v34 h34 e34; replace e34 : v34 = .int .i64 (i : Int) := e34; subst e34; exact exec_val (c := .pointer (some ⟨b, off + i, none⟩)) (wanted_yes (b := false) (t := 32) rfl rfl h32) (by go_simp) rfl
              case o14 => intro aR wR hR; replace hR := hR.undrew; intro v32 h32 e32; replace e32 : v32 = .bool false := e32; subst e32; intro v35 h35 e35; replace e35 : v35 = .pointer (some ⟨b, off + i, none⟩) := e35; subst e35; (have h1 := hR.cell C0.out (by simp)); exact exec_val (c := .slice xa xn xc) (wanted_yes (b := false) (t := 32) rfl rfl h32) (by go_simp) rfl
              case o15 => intro aR wR hR; replace hR := hR.undrew; intro v32 h32 e32; replace e32 : v32 = .bool false := e32; subst e32; intro v36 h36 e36; replace e36 : v36 = .slice xa xn xc := e36; subst e36; exact exec_val (c := .int .i64 ((xn : Nat) : Int)) (wanted_yes (b := false) (t := 32) rfl rfl h32) (by go_simp) rfl
              case o16 => intro aR wR hR; replace hR := hR.undrew; intro v32 h32 e32; replace e32 : v32 = .bool false := e32; subst e32; intro v37 h37 e37; replace e37 : v37 = .int .i64 ((xn : Nat) : Int) := e37; subst e37; exact exec_val (c := .bool false) (wanted_yes (b := false) (t := 32) rfl rfl h32) (by go_simp) rfl
              case o17 => intro aR wR hR; replace hR := hR.undrew; intro v32 h32 e32; replace e32 : v32 = .bool false := e32; subst e32; intro v38 h38 e38; replace e38 : v38 = .bool false := e38; subst e38; exact exec_val (c := .bool false) (wanted_none rfl) (by go_simp) rfl
            · intro vs wR hR hV
              obtain ⟨e0, e1, e2, e3, e4, e5, e6, e7, e8, e9, e10, e11, e12, e13, e14, e15, e16, e17, -⟩ := hV
              replace e0 : vs 0 = .slice (some ⟨b, off, none⟩) m rc := e0
              replace e1 : vs 1 = .int .i64 (i : Int) := e1
              replace e2 : vs 2 = .pointer (some ⟨b, off + i, none⟩) := e2
              replace e3 : vs 3 = .slice xa xn xc := e3
              replace e4 : vs 4 = .int .i64 ((xn : Nat) : Int) := e4
              replace e5 : vs 5 = .slice (some ⟨b, off, none⟩) m rc := e5
              replace e6 : vs 6 = .pointer (some ⟨b, off, none⟩) := e6
              replace e7 : vs 7 = .slice ya xn yc := e7
              replace e8 : vs 8 = .int .i64 ((xn : Nat) : Int) := e8
              replace e9 : vs 9 = .bool false := e9
              replace e10 : vs 10 = .bool false := e10
              replace e11 : vs 11 = .slice (some ⟨b, off, none⟩) m rc := e11
              replace e12 : vs 12 = .int .i64 (i : Int) := e12
              replace e13 : vs 13 = .pointer (some ⟨b, off + i, none⟩) := e13
              replace e14 : vs 14 = .slice xa xn xc := e14
              replace e15 : vs 15 = .int .i64 ((xn : Nat) : Int) := e15
              replace e16 : vs 16 = .bool false := e16
              replace e17 : vs 17 = .bool false := e17
              simp only [putAll, e0, e1, e2, e3, e4, e5, e6, e7, e8, e9, e10, e11, e12, e13, e14, e15, e16, e17, Nat.reduceAdd, Nat.zero_add]
              clear e0 e1 e2 e3 e4 e5 e6 e7 e8 e9 e10 e11 e12 e13 e14 e15 e16 e17
              try simp only [List.setIfInBounds_toArray, List.set_cons_succ, List.set_cons_zero]
              have c1 := hR.cell C0.out (by simp)
              have HK3 := Lib.hid (HK.out.tr hR)
              have HKR := Lib.hid hR
              clear hR
              go_wp2_with fail
              go_loopw [45] (fun vk wr => ∃ k : Nat, k ≤ xn ∧ vk = .int .i64 k ∧ Hid (Kp [] wo wr)) (fun vk _ => xn - (intOf vk).toNat)
              case atStart => exact ⟨0, Nat.zero_le _, rfl, HKR⟩
              case round =>
                obtain ⟨k, hk, rfl, HKI⟩ := hrel
                obtain ⟨wi, rfl⟩ : ∃ wi : World, wi = wr := ⟨_, rfl⟩
                by_cases hlk : k < xn
                · obtain ⟨b1, off1, rfl, hx⟩ := vals_at (RdV.keep0 HXR.out HKI.out) (s := k) (by rw [← HXN.out]; exact hlk)
                  obtain ⟨b2, off2, rfl, hy⟩ := vals_at (RdV.keep0 HYR.out HKI.out) (s := k) (by rw [← HYN.out]; exact hlk)
                  have C1 : Hid (wi.cell? ⟨b, off + i, none⟩ = some (.slice (some ⟨b1, off1, none⟩) xn xc)) := Lib.hid (HKI.out.cell C0.out (by simp))
                  have D1 : Hid (wi.cell? ⟨b, off, none⟩ = some (.slice (some ⟨b2, off2, none⟩) xn yc)) := Lib.hid (HKI.out.cell D0.out (by simp))
                  have HXV := Lib.hid hx
                  have HYV := Lib.hid hy
                  have HKN := Lib.hid (HKW.out.tr HKI.out)
                  clear hx hy
                  generalize atV xr k = vx at *
                  generalize atV yr k = vy at *
                  obtain ⟨kk, nn, ss⟩ := vx
                  obtain ⟨kk2, nn2, ss2⟩ := vy
                  cases hmv : mayV kk nn ss
                  · go_upto_region 12 with (fail)
                    refine wp_region_K (by kernel_rfl) [.val (.slice (some ⟨b, off, none⟩) m rc), .val (.int .i64 (i : Int)), .val (.pointer (some ⟨b, off + i, none⟩)), .val (.slice (some ⟨b1, off1, none⟩) xn xc), .val (.int .i64 (k : Int)), .val (.pointer (some ⟨b1, off1 + k * 3, none⟩)), .val (.agg #[.int .u8 kk, .int .i64 nn, .string ss]), .val (.bool false), .val (.bool true), .val (.bool true), .val (undef), .val (undef), .val (undef), .val (undef), .val (undef), .val (undef), .val (undef), .val (undef), .val (undef), .val (undef), .val (undef), .val (undef), .val (undef), .val (undef), .val (undef), .val (undef), .val ((.bool true))] [[(0, none)], [(6, none)], [(48, some 0), (49, some 1)], [(50, some 2)], [(7, none)], [(51, some 3), (52, some 4)], [(53, some 5)], [(54, some 6)], [(55, some 7)], [(56, some 8)], [(57, some 9)], [(57, some 9)], [(57, some 9)], [(57, some 9)], [(57, some 9)], [(57, some 9)], [(57, some 9)], [(57, some 9)], [(57, some 9)], [(57, some 9)], [(57, some 9)], [(57, some 9)], [(57, some 9)], [(57, some 9)], [(57, some 9)], [(57, some 9)], [(57, some 9), (73, some 25)]] rfl (by kernel_rfl) ?_ ?_
                    · refine ⟨?o0, ?o1, ?o2, ?o3, ?o4, ?o5, ?o6, ?o7, ?o8, ?o9, ?o10, ?o11, ?o12, ?o13, ?o14, ?o15, ?o16, ?o17, ?o18, ?o19, ?o20, ?o21, ?o22, ?o23, ?o24, ?o25, ?o26, trivial⟩
                      case o0 => intro aR wR hR; replace hR := hR.undrew; intro (h0 : aR.tmps[0]? = some (.slice (some ⟨b, off, none⟩) m rc)); exact exec_val (c := .slice (some ⟨b, off, none⟩) m rc) (wanted_none rfl) (by go_simp) rfl
                      case o1 => intro aR wR hR; replace hR := hR.undrew; intro (h6 : aR.tmps[6]? = some (.int .i64 (i : Int))); exact exec_val (c := .int .i64 (i : Int)) (wanted_none rfl) (by go_simp) rfl
                      case o2 => intro aR wR hR; replace hR := hR.undrew; intro v48 h48 e48; replace e48 : v48 = .slice (some ⟨b, off, none⟩) m rc := e48; subst e48; intro v49 h49 e49; replace e49 : v49 = .int .i64 (i : Int) := e49; subst e49; exact exec_val (c := .pointer (some ⟨b, off + i, none⟩)) (wanted_none rfl) (by go_simp) rfl
                      case o3 => intro aR wR hR; replace hR := hR.undrew; intro v50 h50 e50; replace e50 : v50 = .pointer (some ⟨b, off + i, none⟩) := e50; subst e50; (have h1 := hR.cell C1.out (by simp)); exact exec_val (c := .slice (some ⟨b1, off1, none⟩) xn xc) (wanted_none rfl) (by go_simp) rfl
                      case o4 => intro aR wR hR; replace hR := hR.undrew; intro (h7 : aR.tmps[7]? = some (.int .i64 (k : Int))); exact exec_val (c := .int .i64 (k : Int)) (wanted_none rfl) (by go_simp) rfl
                      case o5 => intro aR wR hR; replace hR := hR.undrew; intro v51 h51 e51; replace e51 : v51 = .slice (some ⟨b1, off1, none⟩) xn xc := e51; subst e51; intro v52 h52 e52; replace e52 : v52 = .int .i64 (k : Int) := e52; subst e52; exact exec_val (c := .pointer (some ⟨b1, off1 + k * 3, none⟩)) (wanted_none rfl) (by go_simp) rfl
                      case o6 => intro aR wR hR; replace hR := hR.undrew; intro v53 h53 e53; replace e53 : v53 = .pointer (some ⟨b1, off1 + k * 3, none⟩) := e53; subst e53; (obtain ⟨h1, h2, h3⟩ := HXV.out wR hR; dsimp only at h1 h2 h3); exact exec_val (c := .agg #[.int .u8 kk, .int .i64 nn, .string ss]) (wanted_none rfl) (by go_simp) rfl
                      case o7 => intro aR wR hR; replace hR := hR.undrew; intro v54 h54 e54; replace e54 : v54 = .agg #[.int .u8 kk, .int .i64 nn, .string ss] := e54; subst e54; refine exec_call (wanted_none rfl) (by go_simp; exact ⟨rfl, rfl⟩) ?_; refine (r10May_any kk nn ss wR).mono ?_; rintro e7 w8 ⟨rfl, kp8⟩; exact ⟨_, rfl, by rw [hmv]; rfl, kp8⟩
                      case o8 => intro aR wR hR; replace hR := hR.undrew; intro v55 h55 e55; replace e55 : v55 = .bool false := e55; subst e55; exact exec_val (c := .bool true) (wanted_none rfl) (by go_simp) rfl
                      case o9 => intro aR wR hR; replace hR := hR.undrew; intro v56 h56 e56; replace e56 : v56 = .bool true := e56; subst e56; exact exec_val (c := .bool true) (wanted_none rfl) (by go_simp) rfl
                      case o10 => intro aR wR hR; replace hR := hR.undrew; intro v57 h57 e57; replace e57 : v57 = .bool true := e57; subst e57; exact exec_pass (wanted_not (b := false) (t := 57) rfl rfl h57) rfl
                      case o11 => intro aR wR hR; replace hR := hR.undrew; intro v57 h57 e57; replace e57 : v57 = .bool true := e57; subst e57; exact exec_pass (wanted_not (b := false) (t := 57) rfl rfl h57) rfl
                      case o12 => intro aR wR hR; replace hR := hR.undrew; intro v57 h57 e57; replace e57 : v57 = .bool true := e57; subst e57; exact exec_pass (wanted_not (b := false) (t := 57) rfl rfl h57) rfl
                      case o13 => intro aR wR hR; replace hR := hR.undrew; intro v57 h57 e57; replace e57 : v57 = .bool true := e57; subst e57; exact exec_pass (wanted_not (b := false) (t := 57) rfl rfl h57) rfl
                      case o14 => intro aR wR hR; replace hR := hR.undrew; intro v57 h57 e57; replace e57 : v57 = .bool true := e57; subst e57; exact exec_pass (wanted_not (b := false) (t := 57) rfl rfl h57) rfl
                      case o15 => intro aR wR hR; replace hR := hR.undrew; intro v57 h57 e57; replace e57 : v57 = .bool true := e57; subst e57; exact exec_pass (wanted_not (b := false) (t := 57) rfl rfl h57) rfl
                      case o16 => intro aR wR hR; replace hR := hR.undrew; intro v57 h57 e57; replace e57 : v57 = .bool true := e57; subst e57; exact exec_pass (wanted_not (b := false) (t := 57) rfl rfl h57) rfl
                      case o17 => intro aR wR hR; replace hR := hR.undrew; intro v57 h57 e57; replace e57 : v57 = .bool true := e57; subst e57; exact exec_pass (wanted_not (b := false) (t := 57) rfl rfl h57) rfl
                      case o18 => intro aR wR hR; replace hR := hR.undrew; intro v57 h57 e57; replace e57 : v57 = .bool true := e57; subst e57; exact exec_pass (wanted_not (b := false) (t := 57) rfl rfl h57) rfl
                      case o19 => intro aR wR hR; replace hR := hR.undrew; intro v57 h57 e57; replace e57 : v57 = .bool true := e57; subst e57; exact exec_pass (wanted_not (b := false) (t := 57) rfl rfl h57) rfl
                      case o20 => intro aR wR hR; replace hR := hR.undrew; intro v57 h57 e57; replace e57 : v57 = .bool true := e57; subst e57; exact exec_pass (wanted_not (b := false) (t := 57) rfl rfl h57) rfl
                      case o21 => intro aR wR hR; replace hR := hR.undrew; intro v57 h57 e57; replace e57 : v57 = .bool true := e57; subst e57; exact exec_pass (wanted_not (b := false) (t := 57) rfl rfl h57) rfl
                      case o22 => intro aR wR hR; replace hR := hR.undrew; intro v57 h57 e57; replace e57 : v57 = .bool true := e57; subst e57; exact exec_pass (wanted_not (b := false) (t := 57) rfl rfl h57) rfl
                      case o23 => intro aR wR hR; replace hR := hR.undrew; intro v57 h57 e57; replace e57 : v57 = .bool true := e57; subst e57; exact exec_pass (wanted_not (b := false) (t := 57) rfl rfl h57) rfl
                      case o24 => intro aR wR hR; replace hR := hR.undrew; intro v57 h57 e57; replace e57 : v57 = .bool true := e57; subst e57; exact exec_pass (wanted_not (b := false) (t := 57) rfl rfl h57) rfl
                      case o25 => intro aR wR hR; replace hR := hR.undrew; intro v57 h57 e57; replace e57 : v57 = .bool true := e57; subst e57; exact exec_pass (wanted_not (b := false) (t := 57) rfl rfl h57) rfl
                      case o26 => intro aR wR hR; replace hR := hR.undrew; intro v57 h57 e57; replace e57 : v57 = .bool true := e57; subst e57; intro v73 h73 e73; replace e73 : v73 = undef := e73; subst e73; exact exec_val (c := (.bool true)) (wanted_none rfl) (by go_simp) rfl
                    · intro vs wR hR hV
                      obtain ⟨e0, e1, e2, e3, e4, e5, e6, e7, e8, e9, e10, e11, e12, e13, e14, e15, e16, e17, e18, e19, e20, e21, e22, e23, e24, e25, e26, -⟩ := hV
                      replace e0 : vs 0 = .slice (some ⟨b, off, none⟩) m rc := e0
                      replace e1 : vs 1 = .int .i64 (i : Int) := e1
                      replace e2 : vs 2 = .pointer (some ⟨b, off + i, none⟩) := e2
                      replace e3 : vs 3 = .slice (some ⟨b1, off1, none⟩) xn xc := e3
                      replace e4 : vs 4 = .int .i64 (k : Int) := e4
                      replace e5 : vs 5 = .pointer (some ⟨b1, off1 + k * 3, none⟩) := e5
                      replace e6 : vs 6 = .agg #[.int .u8 kk, .int .i64 nn, .string ss] := e6
                      replace e7 : vs 7 = .bool false := e7
                      replace e8 : vs 8 = .bool true := e8
                      replace e9 : vs 9 = .bool true := e9
                      replace e10 : vs 10 = undef := e10
                      replace e11 : vs 11 = undef := e11
                      replace e12 : vs 12 = undef := e12
                      replace e13 : vs 13 = undef := e13
                      replace e14 : vs 14 = undef := e14
                      replace e15 : vs 15 = undef := e15
                      replace e16 : vs 16 = undef := e16
                      replace e17 : vs 17 = undef := e17
                      replace e18 : vs 18 = undef := e18
                      replace e19 : vs 19 = undef := e19
                      replace e20 : vs 20 = undef := e20
                      replace e21 : vs 21 = undef := e21
                      replace e22 : vs 22 = undef := e22
                      replace e23 : vs 23 = undef := e23
                      replace e24 : vs 24 = undef := e24
                      replace e25 : vs 25 = undef := e25
                      replace e26 : vs 26 = (.bool true) := e26
                      simp only [putAll, e0, e1, e2, e3, e4, e5, e6, e7, e8, e9, e10, e11, e12, e13, e14, e15, e16, e17, e18, e19, e20, e21, e22, e23, e24, e25, e26, Nat.reduceAdd, Nat.zero_add]
                      clear e0 e1 e2 e3 e4 e5 e6 e7 e8 e9 e10 e11 e12 e13 e14 e15 e16 e17 e18 e19 e20 e21 e22 e23 e24 e25 e26
                      try simp only [List.setIfInBounds_toArray, List.set_cons_succ, List.set_cons_zero]
                      go_wp2_with fail
                      go_ret
                      exact ⟨fitB_no _ _, HKN.out.tr hR⟩
                  · by_cases hkk : kk = kk2
                    · subst hkk
                      have hkb : ((kk : Int) != (kk : Int)) = false := by simp
                      go_upto_region 12 with (fail)
                      refine wp_region_K (by kernel_rfl) [.val (.slice (some ⟨b, off, none⟩) m rc), .val (.int .i64 (i : Int)), .val (.pointer (some ⟨b, off + i, none⟩)), .val (.slice (some ⟨b1, off1, none⟩) xn xc), .val (.int .i64 (k : Int)), .val (.pointer (some ⟨b1, off1 + k * 3, none⟩)), .val (.agg #[.int .u8 kk, .int .i64 nn, .string ss]), .val (.bool true), .val (.bool false), .val (.bool false), .val (.slice (some ⟨b, off, none⟩) m rc), .val (.int .i64 (i : Int)), .val (.pointer (some ⟨b, off + i, none⟩)), .val (.slice (some ⟨b1, off1, none⟩) xn xc), .val (.int .i64 (k : Int)), .val (.pointer (some ⟨b1, off1 + k * 3, none⟩)), .val (.pointer (some ⟨b1, off1 + k * 3, none⟩)), .val (.int .u8 kk), .val (.slice (some ⟨b, off, none⟩) m rc), .val (.pointer (some ⟨b, off, none⟩)), .val (.slice (some ⟨b2, off2, none⟩) xn yc), .val (.int .i64 (k : Int)), .val (.pointer (some ⟨b2, off2 + k * 3, none⟩)), .val (.pointer (some ⟨b2, off2 + k * 3, none⟩)), .val (.int .u8 kk), .val (.bool false), .val (.bool false)] [[(0, none)], [(6, none)], [(48, some 0), (49, some 1)], [(50, some 2)], [(7, none)], [(51, some 3), (52, some 4)], [(53, some 5)], [(54, some 6)], [(55, some 7)], [(56, some 8)], [(57, some 9), (0, none)], [(57, some 9), (6, none)], [(57, some 9), (58, some 10), (59, some 11)], [(57, some 9), (60, some 12)], [(57, some 9), (7, none)], [(57, some 9), (61, some 13), (62, some 14)], [(57, some 9), (63, some 15)], [(57, some 9), (64, some 16)], [(57, some 9), (0, none)], [(57, some 9), (66, some 18)], [(57, some 9), (67, some 19)], [(57, some 9), (7, none)], [(57, some 9), (68, some 20), (69, some 21)], [(57, some 9), (70, some 22)], [(57, some 9), (71, some 23)], [(57, some 9), (65, some 17), (72, some 24)], [(57, some 9), (73, some 25)]] rfl (by kernel_rfl) ?_ ?_
                      · refine ⟨?o0, ?o1, ?o2, ?o3, ?o4, ?o5, ?o6, ?o7, ?o8, ?o9, ?o10, ?o11, ?o12, ?o13, ?o14, ?o15, ?o16, ?o17, ?o18, ?o19, ?o20, ?o21, ?o22, ?o23, ?o24, ?o25, ?o26, trivial⟩
                        case o0 => intro aR wR hR; replace hR := hR.undrew; intro (h0 : aR.tmps[0]? = some (.slice (some ⟨b, off, none⟩) m rc)); exact exec_val (c := .slice (some ⟨b, off, none⟩) m rc) (wanted_none rfl) (by go_simp) rfl
                        case o1 => intro aR wR hR; replace hR := hR.undrew; intro (h6 : aR.tmps[6]? = some (.int .i64 (i : Int))); exact exec_val (c := .int .i64 (i : Int)) (wanted_none rfl) (by go_simp) rfl
                        case o2 => intro aR wR hR; replace hR := hR.undrew; intro v48 h48 e48; replace e48 : v48 = .slice (some ⟨b, off, none⟩) m rc := e48; subst e48; intro v49 h49 e49; replace e49 : v49 = .int .i64 (i : Int) := e49; subst e49; exact exec_val (c := .pointer (some ⟨b, off + i, none⟩)) (wanted_none rfl) (by go_simp) rfl
                        case o3 => intro aR wR hR; replace hR := hR.undrew; intro v50 h50 e50; replace e50 : v50 = .pointer (some ⟨b, off + i, none⟩) := e50; subst e50; (have h1 := hR.cell C1.out (by simp)); exact exec_val (c := .slice (some ⟨b1, off1, none⟩) xn xc) (wanted_none rfl) (by go_simp) rfl
                        case o4 => intro aR wR hR; replace hR := hR.undrew; intro (h7 : aR.tmps[7]? = some (.int .i64 (k : Int))); exact exec_val (c := .int .i64 (k : Int)) (wanted_none rfl) (by go_simp) rfl
                        case o5 => intro aR wR hR; replace hR := hR.undrew; intro v51 h51 e51; replace e51 : v51 = .slice (some ⟨b1, off1, none⟩) xn xc := e51; subst e51; intro v52 h52 e52; replace e52 : v52 = .int .i64 (k : Int) := e52; subst e52; exact exec_val (c := .pointer (some ⟨b1, off1 + k * 3, none⟩)) (wanted_none rfl) (by go_simp) rfl
                        case o6 => intro aR wR hR; replace hR := hR.undrew; intro v53 h53 e53; replace e53 : v53 = .pointer (some ⟨b1, off1 + k * 3, none⟩) := e53; subst e53; (obtain ⟨h1, h2, h3⟩ := HXV.out wR hR; dsimp only at h1 h2 h3); exact exec_val (c := .agg #[.int .u8 kk, .int .i64 nn, .string ss]) (wanted_none rfl) (by go_simp) rfl
                        case o7 => intro aR wR hR; replace hR := hR.undrew; intro v54 h54 e54; replace e54 : v54 = .agg #[.int .u8 kk, .int .i64 nn, .string ss] := e54; subst e54; refine exec_call (wanted_none rfl) (by go_simp; exact ⟨rfl, rfl⟩) ?_; refine (r10May_any kk nn ss wR).mono ?_; rintro e7 w8 ⟨rfl, kp8⟩; exact ⟨_, rfl, by rw [hmv]; rfl, kp8⟩
                        case o8 => intro aR wR hR; replace hR := hR.undrew; intro v55 h55 e55; replace e55 : v55 = .bool true := e55; subst e55; exact exec_val (c := .bool false) (wanted_none rfl) (by go_simp) rfl
                        case o9 => intro aR wR hR; replace hR := hR.undrew; intro v56 h56 e56; replace e56 : v56 = .bool false := e56; subst e56; exact exec_val (c := .bool false) (wanted_none rfl) (by go_simp) rfl
                        case o10 => intro aR wR hR; replace hR := hR.undrew; intro v57 h57 e57; replace e57 : v57 = .bool false := e57; subst e57; intro (h0 : aR.tmps[0]? = some (.slice (some ⟨b, off, none⟩) m rc)); exact exec_val (c := .slice (some ⟨b, off, none⟩) m rc) (wanted_yes (b := false) (t := 57) rfl rfl h57) (by go_simp) rfl
                        case o11 => intro aR wR hR; replace hR := hR.undrew; intro v57 h57 e57; replace e57 : v57 = .bool false := e57; subst e57; intro (h6 : aR.tmps[6]? = some (.int .i64 (i : Int))); exact exec_val (c := .int .i64 (i : Int)) (wanted_yes (b := false) (t := 57) rfl rfl h57) (by go_simp) rfl
                        case o12 => intro aR wR hR; replace hR := hR.undrew; intro v57 h57 e57; replace e57 : v57 = .bool false := e57; subst e57; intro v58 h58 e58; replace e58 : v58 = .slice (some ⟨b, off, none⟩) m rc := e58; subst e58; intro v59 h59 e59; replace e59 : v59 = .int .i64 (i : Int) := e59; subst e59; exact exec_val (c := .pointer (some ⟨b, off + i, none⟩)) (wanted_yes (b := false) (t := 57) rfl rfl h57) (by go_simp) rfl
                        case o13 => intro aR wR hR; replace hR := hR.undrew; intro v57 h57 e57; replace e57 : v57 = .bool false := e57; subst e57; intro v60 h60 e60; replace e60 : v60 = .pointer (some ⟨b, off + i, none⟩) := e60; subst e60; (have h1 := hR.cell C1.out (by simp)); exact exec_val (c := .slice (some ⟨b1, off1, none⟩) xn xc) (wanted_yes (b := false) (t := 57) rfl rfl h57) (by go_simp) rfl
                        case o14 => intro aR wR hR; replace hR := hR.undrew; intro v57 h57 e57; replace e57 : v57 = .bool false := e57; subst e57; intro (h7 : aR.tmps[7]? = some (.int .i64 (k : Int))); exact exec_val (c := .int .i64 (k : Int)) (wanted_yes (b := false) (t := 57) rfl rfl h57) (by go_simp) rfl
                        case o15 => intro aR wR hR; replace hR := hR.undrew; intro v57 h57 e57; replace e57 : v57 = .bool false := e57; subst e57; intro v61 h61 e61; replace e61 : v61 = .slice (some ⟨b1, off1, none⟩) xn xc := e61; subst e61; intro v62 h62 e62; replace e62 : v62 = .int .i64 (k : Int) := e62; subst e62; exact exec_val (c := .pointer (some ⟨b1, off1 + k * 3, none⟩)) (wanted_yes (b := false) (t := 57) rfl rfl h57) (by go_simp) rfl
                        case o16 => intro aR wR hR; replace hR := hR.undrew; intro v57 h57 e57; replace e57 : v57 = .bool false := e57; subst e57; intro v63 h63 e63; replace e63 : v63 = .pointer (some ⟨b1, off1 + k * 3, none⟩) := e63; subst e63; exact exec_val (c := .pointer (some ⟨b1, off1 + k * 3, none⟩)) (wanted_yes (b := false) (t := 57) rfl rfl h57) (by go_simp) rfl
                        case o17 => intro aR wR hR; replace hR := hR.undrew; intro v57 h57 e57; replace e57 : v57 = .bool false := e57; subst e57; intro v64 h64 e64; replace e64 : v64 = .pointer (some ⟨b1, off1 + k * 3, none⟩) := e64; subst e64; (obtain ⟨h1, h2, h3⟩ := HXV.out wR hR; dsimp only at h1 h2 h3); exact exec_val (c := .int .u8 kk) (wanted_yes (b := false) (t := 57) rfl rfl h57) (by go_simp) rfl
                        case o18 => intro aR wR hR; replace hR := hR.undrew; intro v57 h57 e57; replace e57 : v57 = .bool false := e57; subst e57; intro (h0 : aR.tmps[0]? = some (.slice (some ⟨b, off, none⟩) m rc)); exact exec_val (c := .slice (some ⟨b, off, none⟩) m rc) (wanted_yes (b := false) (t := 57) rfl rfl h57) (by go_simp) rfl
                        case o19 => intro aR wR hR; replace hR := hR.undrew; intro v57 h57 e57; replace e57 : v57 = .bool false := e57; subst e57; intro v66 h66 e66; replace e66 : v66 = .slice (some ⟨b, off, none⟩) m rc := e66; subst e66; exact exec_val (c := .pointer (some ⟨b, off, none⟩)) (wanted_yes (b := false) (t := 57) rfl rfl h57) (by go_simp) rfl
                        case o20 => intro aR wR hR; replace hR := hR.undrew; intro v57 h57 e57; replace e57 : v57 = .bool false := e57; subst e57; intro v67 h67 e67; replace e67 : v67 = .pointer (some ⟨b, off, none⟩) := e67; subst e67; (have h1 := hR.cell D1.out (by simp)); exact exec_val (c := .slice (some ⟨b2, off2, none⟩) xn yc) (wanted_yes (b := false) (t := 57) rfl rfl h57) (by go_simp) rfl
                        case o21 => intro aR wR hR; replace hR := hR.undrew; intro v57 h57 e57; replace e57 : v57 = .bool false := e57; subst e57; intro (h7 : aR.tmps[7]? = some (.int .i64 (k : Int))); exact exec_val (c := .int .i64 (k : Int)) (wanted_yes (b := false) (t := 57) rfl rfl h57) (by go_simp) rfl
                        case o22 => intro aR wR hR; replace hR := hR.undrew; intro v57 h57 e57; replace e57 : v57 = .bool false := e57; subst e57; intro v68 h68 e68; replace e68 : v68 = .slice (some ⟨b2, off2, none⟩) xn yc := e68; subst e68; intro v69 h69 e69; replace e69 : v69 = .int .i64 (k : Int) := e69; subst e69; exact exec_val (c := .pointer (some ⟨b2, off2 + k * 3, none⟩)) (wanted_yes (b := false) (t := 57) rfl rfl h57) (by go_simp) rfl
                        case o23 => intro aR wR hR; replace hR := hR.undrew; intro v57 h57 e57; replace e57 : v57 = .bool false := e57; subst e57; intro v70 h70 e70; replace e70 : v70 = .pointer (some ⟨b2, off2 + k * 3, none⟩) := e70; subst e70; exact exec_val (c := .pointer (some ⟨b2, off2 + k * 3, none⟩)) (wanted_yes (b := false) (t := 57) rfl rfl h57) (by go_simp) rfl
                        case o24 => intro aR wR hR; replace hR := hR.undrew; intro v57 h57 e57; replace e57 : v57 = .bool false := e57; subst e57; intro v71 h71 e71; replace e71 : v71 = .pointer (some ⟨b2, off2 + k * 3, none⟩) := e71; subst e71; (obtain ⟨h1, h2, h3⟩ := HYV.out wR hR; dsimp only at h1 h2 h3); exact exec_val (c := .int .u8 kk) (wanted_yes (b := false) (t := 57) rfl rfl h57) (by go_simp) rfl
                        case o25 => intro aR wR hR; replace hR := hR.undrew; intro v57 h57 e57; replace e57 : v57 = .bool false := e57; subst e57; intro v65 h65 e65; replace e65 : v65 = .int .u8 kk := e65; subst e65; intro v72 h72 e72; replace e72 : v72 = .int .u8 kk := e72; subst e72; exact exec_val (c := .bool false) (wanted_yes (b := false) (t := 57) rfl rfl h57) (by go_simp) rfl
                        case o26 => intro aR wR hR; replace hR := hR.undrew; intro v57 h57 e57; replace e57 : v57 = .bool false := e57; subst e57; intro v73 h73 e73; replace e73 : v73 = .bool false := e73; subst e73; exact exec_val (c := .bool false) (wanted_none rfl) (by go_simp) rfl
                      · intro vs wR hR hV
                        obtain ⟨e0, e1, e2, e3, e4, e5, e6, e7, e8, e9, e10, e11, e12, e13, e14, e15, e16, e17, e18, e19, e20, e21, e22, e23, e24, e25, e26, -⟩ := hV
                        replace e0 : vs 0 = .slice (some ⟨b, off, none⟩) m rc := e0
                        replace e1 : vs 1 = .int .i64 (i : Int) := e1
                        replace e2 : vs 2 = .pointer (some ⟨b, off + i, none⟩) := e2
                        replace e3 : vs 3 = .slice (some ⟨b1, off1, none⟩) xn xc := e3
                        replace e4 : vs 4 = .int .i64 (k : Int) := e4
                        replace e5 : vs 5 = .pointer (some ⟨b1, off1 + k * 3, none⟩) := e5
                        replace e6 : vs 6 = .agg #[.int .u8 kk, .int .i64 nn, .string ss] := e6
                        replace e7 : vs 7 = .bool true := e7
                        replace e8 : vs 8 = .bool false := e8
                        replace e9 : vs 9 = .bool false := e9
                        replace e10 : vs 10 = .slice (some ⟨b, off, none⟩) m rc := e10
                        replace e11 : vs 11 = .int .i64 (i : Int) := e11
                        replace e12 : vs 12 = .pointer (some ⟨b, off + i, none⟩) := e12
                        replace e13 : vs 13 = .slice (some ⟨b1, off1, none⟩) xn xc := e13
                        replace e14 : vs 14 = .int .i64 (k : Int) := e14
                        replace e15 : vs 15 = .pointer (some ⟨b1, off1 + k * 3, none⟩) := e15
                        replace e16 : vs 16 = .pointer (some ⟨b1, off1 + k * 3, none⟩) := e16
                        replace e17 : vs 17 = .int .u8 kk := e17
                        replace e18 : vs 18 = .slice (some ⟨b, off, none⟩) m rc := e18
                        replace e19 : vs 19 = .pointer (some ⟨b, off, none⟩) := e19
                        replace e20 : vs 20 = .slice (some ⟨b2, off2, none⟩) xn yc := e20
                        replace e21 : vs 21 = .int .i64 (k : Int) := e21
                        replace e22 : vs 22 = .pointer (some ⟨b2, off2 + k * 3, none⟩) := e22
                        replace e23 : vs 23 = .pointer (some ⟨b2, off2 + k * 3, none⟩) := e23
                        replace e24 : vs 24 = .int .u8 kk := e24
                        replace e25 : vs 25 = .bool false := e25
                        replace e26 : vs 26 = .bool false := e26
                        simp only [putAll, e0, e1, e2, e3, e4, e5, e6, e7, e8, e9, e10, e11, e12, e13, e14, e15, e16, e17, e18, e19, e20, e21, e22, e23, e24, e25, e26, Nat.reduceAdd, Nat.zero_add]
                        clear e0 e1 e2 e3 e4 e5 e6 e7 e8 e9 e10 e11 e12 e13 e14 e15 e16 e17 e18 e19 e20 e21 e22 e23 e24 e25 e26
                        try simp only [List.setIfInBounds_toArray, List.set_cons_succ, List.set_cons_zero]
                        go_wp2_with fail
                        go_roundw
                        case rel => exact ⟨k + 1, hlk, by go_num, Lib.hid (HKI.out.tr hR)⟩
                        case measure => simp [intOf]; omega
                    · have hkb : ((kk : Int) != (kk2 : Int)) = true := by simpa using hkk
                      go_upto_region 12 with (fail)
                      refine wp_region_K (by kernel_rfl) [.val (.slice (some ⟨b, off, none⟩) m rc), .val (.int .i64 (i : Int)), .val (.pointer (some ⟨b, off + i, none⟩)), .val (.slice (some ⟨b1, off1, none⟩) xn xc), .val (.int .i64 (k : Int)), .val (.pointer (some ⟨b1, off1 + k * 3, none⟩)), .val (.agg #[.int .u8 kk, .int .i64 nn, .string ss]), .val (.bool true), .val (.bool false), .val (.bool false), .val (.slice (some ⟨b, off, none⟩) m rc), .val (.int .i64 (i : Int)), .val (.pointer (some ⟨b, off + i, none⟩)), .val (.slice (some ⟨b1, off1, none⟩) xn xc), .val (.int .i64 (k : Int)), .val (.pointer (some ⟨b1, off1 + k * 3, none⟩)), .val (.pointer (some ⟨b1, off1 + k * 3, none⟩)), .val (.int .u8 kk), .val (.slice (some ⟨b, off, none⟩) m rc), .val (.pointer (some ⟨b, off, none⟩)), .val (.slice (some ⟨b2, off2, none⟩) xn yc), .val (.int .i64 (k : Int)), .val (.pointer (some ⟨b2, off2 + k * 3, none⟩)), .val (.pointer (some ⟨b2, off2 + k * 3, none⟩)), .val (.int .u8 kk2), .val (.bool true), .val (.bool true)] [[(0, none)], [(6, none)], [(48, some 0), (49, some 1)], [(50, some 2)], [(7, none)], [(51, some 3), (52, some 4)], [(53, some 5)], [(54, some 6)], [(55, some 7)], [(56, some 8)], [(57, some 9), (0, none)], [(57, some 9), (6, none)], [(57, some 9), (58, some 10), (59, some 11)], [(57, some 9), (60, some 12)], [(57, some 9), (7, none)], [(57, some 9), (61, some 13), (62, some 14)], [(57, some 9), (63, some 15)], [(57, some 9), (64, some 16)], [(57, some 9), (0, none)], [(57, some 9), (66, some 18)], [(57, some 9), (67, some 19)], [(57, some 9), (7, none)], [(57, some 9), (68, some 20), (69, some 21)], [(57, some 9), (70, some 22)], [(57, some 9), (71, some 23)], [(57, some 9), (65, some 17), (72, some 24)], [(57, some 9), (73, some 25)]] rfl (by kernel_rfl) ?_ ?_
                      · refine ⟨?o0, ?o1, ?o2, ?o3, ?o4, ?o5, ?o6, ?o7, ?o8, ?o9, ?o10, ?o11, ?o12, ?o13, ?o14, ?o15, ?o16, ?o17, ?o18, ?o19, ?o20, ?o21, ?o22, ?o23, ?o24, ?o25, ?o26, trivial⟩
                        case o0 => intro aR wR hR; replace hR := hR.undrew; intro (h0 : aR.tmps[0]? = some (.slice (some ⟨b, off, none⟩) m rc)); exact exec_val (c := .slice (some ⟨b, off, none⟩) m rc) (wanted_none rfl) (by go_simp) rfl
                        case o1 => intro aR wR hR; replace hR := hR.undrew; intro (h6 : aR.tmps[6]? = some (.int .i64 (i : Int))); exact exec_val (c := .int .i64 (i : Int)) (wanted_none rfl) (by go_simp) rfl
                        case o2 => intro aR wR hR; replace hR := hR.undrew; intro v48 h48 e48; replace e48 : v48 = .slice (some ⟨b, off, none⟩) m rc := e48; subst e48; intro v49 h49 e49; replace e49 : v49 = .int .i64 (i : Int) := e49; subst e49; exact exec_val (c := .pointer (some ⟨b, off + i, none⟩)) (wanted_none rfl) (by go_simp) rfl
                        case o3 => intro aR wR hR; replace hR := hR.undrew; intro v50 h50 e50; replace e50 : v50 = .pointer (some ⟨b, off + i, none⟩) := e50; subst e50; (have h1 := hR.cell C1.out (by simp)); exact exec_val (c := .slice (some ⟨b1, off1, none⟩) xn xc) (wanted_none rfl) (by go_simp) rfl
                        case o4 => intro aR wR hR; replace hR := hR.undrew; intro (h7 : aR.tmps[7]? = some (.int .i64 (k : Int))); exact exec_val (c := .int .i64 (k : Int)) (wanted_none rfl) (by go_simp) rfl
                        case o5 => intro aR wR hR; replace hR := hR.undrew; intro v51 h51 e51; replace e51 : v51 = .slice (some ⟨b1, off1, none⟩) xn xc := e51; subst e51; intro v52 h52 e52; replace e52 : v52 = .int .i64 (k : Int) := e52; subst e52; exact exec_val (c := .pointer (some ⟨b1, off1 + k * 3, none⟩)) (wanted_none rfl) (by go_simp) rfl
                        case o6 => intro aR wR hR; replace hR := hR.undrew; intro v53 h53 e53; replace e53 : v53 = .pointer (some ⟨b1, off1 + k * 3, none⟩) := e53; subst e53; (obtain ⟨h1, h2, h3⟩ := HXV.out wR hR; dsimp only at h1 h2 h3); exact exec_val (c := .agg #[.int .u8 kk, .int .i64 nn, .string ss]) (wanted_none rfl) (by go_simp) rfl
                        case o7 => intro aR wR hR; replace hR := hR.undrew; intro v54 h54 e54; replace e54 : v54 = .agg #[.int .u8 kk, .int .i64 nn, .string ss] := e54; subst e54; refine exec_call (wanted_none rfl) (by go_simp; exact ⟨rfl, rfl⟩) ?_; refine (r10May_any kk nn ss wR).mono ?_; rintro e7 w8 ⟨rfl, kp8⟩; exact ⟨_, rfl, by rw [hmv]; rfl, kp8⟩
                        case o8 => intro aR wR hR; replace hR := hR.undrew; intro v55 h55 e55; replace e55 : v55 = .bool true := e55; subst e55; exact exec_val (c := .bool false) (wanted_none rfl) (by go_simp) rfl
                        case o9 => intro aR wR hR; replace hR := hR.undrew; intro v56 h56 e56; replace e56 : v56 = .bool false := e56; subst e56; exact exec_val (c := .bool false) (wanted_none rfl) (by go_simp) rfl
                        case o10 => intro aR wR hR; replace hR := hR.undrew; intro v57 h57 e57; replace e57 : v57 = .bool false := e57; subst e57; intro (h0 : aR.tmps[0]? = some (.slice (some ⟨b, off, none⟩) m rc)); exact exec_val (c := .slice (some ⟨b, off, none⟩) m rc) (wanted_yes (b := false) (t := 57) rfl rfl h57) (by go_simp) rfl
                        case o11 => intro aR wR hR; replace hR := hR.undrew; intro v57 h57 e57; replace e57 : v57 = .bool false := e57; subst e57; intro (h6 : aR.tmps[6]? = some (.int .i64 (i : Int))); exact exec_val (c := .int .i64 (i : Int)) (wanted_yes (b := false) (t := 57) rfl rfl h57) (by go_simp) rfl
                        case o12 => intro aR wR hR; replace hR := hR.undrew; intro v57 h57 e57; replace e57 : v57 = .bool false := e57; subst e57; intro v58 h58 e58; replace e58 : v58 = .slice (some ⟨b, off, none⟩) m rc := e58; subst e58; intro v59 h59 e59; replace e59 : v59 = .int .i64 (i : Int) := e59; subst e59; exact exec_val (c := .pointer (some ⟨b, off + i, none⟩)) (wanted_yes (b := false) (t := 57) rfl rfl h57) (by go_simp) rfl
                        case o13 => intro aR wR hR; replace hR := hR.undrew; intro v57 h57 e57; replace e57 : v57 = .bool false := e57; subst e57; intro v60 h60 e60; replace e60 : v60 = .pointer (some ⟨b, off + i, none⟩) := e60; subst e60; (have h1 := hR.cell C1.out (by simp)); exact exec_val (c := .slice (some ⟨b1, off1, none⟩) xn xc) (wanted_yes (b := false) (t := 57) rfl rfl h57) (by go_simp) rfl
                        case o14 => intro aR wR hR; replace hR := hR.undrew; intro v57 h57 e57; replace e57 : v57 = .bool false := e57; subst e57; intro (h7 : aR.tmps[7]? = some (.int .i64 (k : Int))); exact exec_val (c := .int .i64 (k : Int)) (wanted_yes (b := false) (t := 57) rfl rfl h57) (by go_simp) rfl
                        case o15 => intro aR wR hR; replace hR := hR.undrew; intro v57 h57 e57; replace e57 : v57 = .bool false := e57; subst e57; intro v61 h61 e61; replace e61 : v61 = .slice (some ⟨b1, off1, none⟩) xn xc := e61; subst e61; intro v62 h62 e62; replace e62 : v62 = .int .i64 (k : Int) := e62; subst e62; exact exec_val (c := .pointer (some ⟨b1, off1 + k * 3, none⟩)) (wanted_yes (b := false) (t := 57) rfl rfl h57) (by go_simp) rfl
                        case o16 => intro aR wR hR; replace hR := hR.undrew; intro v57 h57 e57; replace e57 : v57 = .bool false := e57; subst e57; intro v63 h63 e63; replace e63 : v63 = .pointer (some ⟨b1, off1 + k * 3, none⟩) := e63; subst e63; exact exec_val (c := .pointer (some ⟨b1, off1 + k * 3, none⟩)) (wanted_yes (b := false) (t := 57) rfl rfl h57) (by go_simp) rfl
                        case o17 => intro aR wR hR; replace hR := hR.undrew; intro v57 h57 e57; replace e57 : v57 = .bool false := e57; subst e57; intro v64 h64 e64; replace e64 : v64 = .pointer (some ⟨b1, off1 + k * 3, none⟩) := e64; subst e64; (obtain ⟨h1, h2, h3⟩ := HXV.out wR hR; dsimp only at h1 h2 h3); exact exec_val (c := .int .u8 kk) (wanted_yes (b := false) (t := 57) rfl rfl h57) (by go_simp) rfl
                        case o18 => intro aR wR hR; replace hR := hR.undrew; intro v57 h57 e57; replace e57 : v57 = .bool false := e57; subst e57; intro (h0 : aR.tmps[0]? = some (.slice (some ⟨b, off, none⟩) m rc)); exact exec_val (c := .slice (some ⟨b, off, none⟩) m rc) (wanted_yes (b := false) (t := 57) rfl rfl h57) (by go_simp) rfl
                        case o19 => intro aR wR hR; replace hR := hR.undrew; intro v57 h57 e57; replace e57 : v57 = .bool false := e57; subst e57; intro v66 h66 e66; replace e66 : v66 = .slice (some ⟨b, off, none⟩) m rc := e66; subst e66; exact exec_val (c := .pointer (some ⟨b, off, none⟩)) (wanted_yes (b := false) (t := 57) rfl rfl h57) (by go_simp) rfl
                        case o20 => intro aR wR hR; replace hR := hR.undrew; intro v57 h57 e57; replace e57 : v57 = .bool false := e57; subst e57; intro v67 h67 e67; replace e67 : v67 = .pointer (some ⟨b, off, none⟩) := e67; subst e67; (have h1 := hR.cell D1.out (by simp)); exact exec_val (c := .slice (some ⟨b2, off2, none⟩) xn yc) (wanted_yes (b := false) (t := 57) rfl rfl h57) (by go_simp) rfl
                        case o21 => intro aR wR hR; replace hR := hR.undrew; intro v57 h57 e57; replace e57 : v57 = .bool false := e57; subst e57; intro (h7 : aR.tmps[7]? = some (.int .i64 (k : Int))); exact exec_val (c := .int .i64 (k : Int)) (wanted_yes (b := false) (t := 57) rfl rfl h57) (by go_simp) rfl
                        case o22 => intro aR wR hR; replace hR := hR.undrew; intro v57 h57 e57; replace e57 : v57 = .bool false := e57; subst e57; intro v68 h68 e68; replace e68 : v68 = .slice (some ⟨b2, off2, none⟩) xn yc := e68; subst e68; intro v69 h69 e69; replace e69 : v69 = .int .i64 (k : Int) := e69; subst e69; exact exec_val (c := .pointer (some ⟨b2, off2 + k * 3, none⟩)) (wanted_yes (b := false) (t := 57) rfl rfl h57) (by go_simp) rfl
                        case o23 => intro aR wR hR; replace hR := hR.undrew; intro v57 h57 e57; replace e57 : v57 = .bool false := e57; subst e57; intro v70 h70 e70; replace e70 : v70 = .pointer (some ⟨b2, off2 + k * 3, none⟩) := e70; subst e70; exact exec_val (c := .pointer (some ⟨b2, off2 + k * 3, none⟩)) (wanted_yes (b := false) (t := 57) rfl rfl h57) (by go_simp) rfl
                        case o24 => intro aR wR hR; replace hR := hR.undrew; intro v57 h57 e57; replace e57 : v57 = .bool false := e57; subst e57; intro v71 h71 e71; replace e71 : v71 = .pointer (some ⟨b2, off2 + k * 3, none⟩) := e71; subst e71; (obtain ⟨h1, h2, h3⟩ := HYV.out wR hR; dsimp only at h1 h2 h3); exact exec_val (c := .int .u8 kk2) (wanted_yes (b := false) (t := 57) rfl rfl h57) (by go_simp) rfl
                        case o25 => intro aR wR hR; replace hR := hR.undrew; intro v57 h57 e57; replace e57 : v57 = .bool false := e57; subst e57; intro v65 h65 e65; replace e65 : v65 = .int .u8 kk := e65; subst e65; intro v72 h72 e72; replace e72 : v72 = .int .u8 kk2 := e72; subst e72; exact exec_val (c := .bool true) (wanted_yes (b := false) (t := 57) rfl rfl h57) (by go_simp) rfl
                        case o26 => intro aR wR hR; replace hR := hR.undrew; intro v57 h57 e57; replace e57 : v57 = .bool false := e57; subst e57; intro v73 h73 e73; replace e73 : v73 = .bool true := e73; subst e73; exact exec_val (c := .bool true) (wanted_none rfl) (by go_simp) rfl
                      · intro vs wR hR hV
                        obtain ⟨e0, e1, e2, e3, e4, e5, e6, e7, e8, e9, e10, e11, e12, e13, e14, e15, e16, e17, e18, e19, e20, e21, e22, e23, e24, e25, e26, -⟩ := hV
                        replace e0 : vs 0 = .slice (some ⟨b, off, none⟩) m rc := e0
                        replace e1 : vs 1 = .int .i64 (i : Int) := e1
                        replace e2 : vs 2 = .pointer (some ⟨b, off + i, none⟩) := e2
                        replace e3 : vs 3 = .slice (some ⟨b1, off1, none⟩) xn xc := e3
                        replace e4 : vs 4 = .int .i64 (k : Int) := e4
                        replace e5 : vs 5 = .pointer (some ⟨b1, off1 + k * 3, none⟩) := e5
                        replace e6 : vs 6 = .agg #[.int .u8 kk, .int .i64 nn, .string ss] := e6
                        replace e7 : vs 7 = .bool true := e7
                        replace e8 : vs 8 = .bool false := e8
                        replace e9 : vs 9 = .bool false := e9
                        replace e10 : vs 10 = .slice (some ⟨b, off, none⟩) m rc := e10
                        replace e11 : vs 11 = .int .i64 (i : Int) := e11
                        replace e12 : vs 12 = .pointer (some ⟨b, off + i, none⟩) := e12
                        replace e13 : vs 13 = .slice (some ⟨b1, off1, none⟩) xn xc := e13
                        replace e14 : vs 14 = .int .i64 (k : Int) := e14
                        replace e15 : vs 15 = .pointer (some ⟨b1, off1 + k * 3, none⟩) := e15
                        replace e16 : vs 16 = .pointer (some ⟨b1, off1 + k * 3, none⟩) := e16
                        replace e17 : vs 17 = .int .u8 kk := e17
                        replace e18 : vs 18 = .slice (some ⟨b, off, none⟩) m rc := e18
                        replace e19 : vs 19 = .pointer (some ⟨b, off, none⟩) := e19
                        replace e20 : vs 20 = .slice (some ⟨b2, off2, none⟩) xn yc := e20
                        replace e21 : vs 21 = .int .i64 (k : Int) := e21
                        replace e22 : vs 22 = .pointer (some ⟨b2, off2 + k * 3, none⟩) := e22
                        replace e23 : vs 23 = .pointer (some ⟨b2, off2 + k * 3, none⟩) := e23
                        replace e24 : vs 24 = .int .u8 kk2 := e24
                        replace e25 : vs 25 = .bool true := e25
                        replace e26 : vs 26 = .bool true := e26
                        simp only [putAll, e0, e1, e2, e3, e4, e5, e6, e7, e8, e9, e10, e11, e12, e13, e14, e15, e16, e17, e18, e19, e20, e21, e22, e23, e24, e25, e26, Nat.reduceAdd, Nat.zero_add]
                        clear e0 e1 e2 e3 e4 e5 e6 e7 e8 e9 e10 e11 e12 e13 e14 e15 e16 e17 e18 e19 e20 e21 e22 e23 e24 e25 e26
                        try simp only [List.setIfInBounds_toArray, List.set_cons_succ, List.set_cons_zero]
                        go_wp2_with fail
                        go_ret
                        exact ⟨fitB_no _ _, HKN.out.tr hR⟩
                · obtain rfl : k = xn := by omega
                  have HK4 := Lib.hid (HK.out.tr HKI.out)
                  go_wp2_with fail
                  go_roundw
                  case rel => exact ⟨i + 1, hlt, by go_num, HX2, HK4⟩
                  case measure => simp [intOf]; omega
        · have hbb := neI xn yn hne
          go_upto_region 7 with (fail)
          refine wp_region_K (by kernel_rfl) [.val (.slice (some ⟨b, off, none⟩) m rc), .val (.int .i64 (i : Int)), .val (.pointer (some ⟨b, off + i, none⟩)), .val (.slice xa xn xc), .val (.int .i64 ((xn : Nat) : Int)), .val (.slice (some ⟨b, off, none⟩) m rc), .val (.pointer (some ⟨b, off, none⟩)), .val (.slice ya yn yc), .val (.int .i64 ((yn : Nat) : Int)), .val (.bool true), .val (.bool true), .val (undef), .val (undef), .val (undef), .val (undef), .val (undef), .val (undef), .val ((.bool true))] [[(0, none)], [(6, none)], [(22, some 0), (23, some 1)], [(24, some 2)], [(25, some 3)], [(0, none)], [(27, some 5)], [(28, some 6)], [(29, some 7)], [(26, some 4), (30, some 8)], [(31, some 9)], [(32, some 10)], [(32, some 10)], [(32, some 10)], [(32, some 10)], [(32, some 10)], [(32, some 10)], [(32, some 10), (38, some 16)]] rfl (by kernel_rfl) ?_ ?_
          · refine ⟨?o0, ?o1, ?o2, ?o3, ?o4, ?o5, ?o6, ?o7, ?o8, ?o9, ?o10, ?o11, ?o12, ?o13, ?o14, ?o15, ?o16, ?o17, trivial⟩
            case o0 => intro aR wR hR; replace hR := hR.undrew; intro (h0 : aR.tmps[0]? = some (.slice (some ⟨b, off, none⟩) m rc)); exact exec_val (c := .slice (some ⟨b, off, none⟩) m rc) (wanted_none rfl) (by go_simp) rfl
            case o1 => intro aR wR hR; replace hR := hR.undrew; intro (h6 : aR.tmps[6]? = some (.int .i64 (i : Int))); exact exec_val (c := .int .i64 (i : Int)) (wanted_none rfl) (by go_simp) rfl
            case o2 => intro aR wR hR; replace hR := hR.undrew; intro v22 h22 e22; replace e22 : v22 = .slice (some ⟨b, off, none⟩) m rc := e22; subst e22; intro v23 h23 e23; replace e23 : v23 = .int .i64 (i : Int) := e23; subst e23; exact exec_val (c := .pointer (some ⟨b, off + i, none⟩)) (wanted_none rfl) (by go_simp) rfl
            case o3 => intro aR wR hR; replace hR := hR.undrew; intro v24 h24 e24; replace e24 : v24 = .pointer (some ⟨b, off + i, none⟩) := e24; subst e24; (have h1 := hR.cell C0.out (by simp)); exact exec_val (c := .slice xa xn xc) (wanted_none rfl) (by go_simp) rfl
            case o4 => intro aR wR hR; replace hR := hR.undrew; intro v25 h25 e25; replace e25 : v25 = .slice xa xn xc := e25; subst e25; exact exec_val (c := .int .i64 ((xn : Nat) : Int)) (wanted_none rfl) (by go_simp) rfl
            case o5 => intro aR wR hR; replace hR := hR.undrew; intro (h0 : aR.tmps[0]? = some (.slice (some ⟨b, off, none⟩) m rc)); exact exec_val (c := .slice (some ⟨b, off, none⟩) m rc) (wanted_none rfl) (by go_simp) rfl
            case o6 => intro aR wR hR; replace hR := hR.undrew; intro v27 h27 e27; replace e27 : v27 = .slice (some ⟨b, off, none⟩) m rc := e27; subst e27; exact exec_val (c := .pointer (some ⟨b, off, none⟩)) (wanted_none rfl) (by go_simp) rfl
            case o7 => intro aR wR hR; replace hR := hR.undrew; intro v28 h28 e28; replace e28 : v28 = .pointer (some ⟨b, off, none⟩) := e28; subst e28; (have h1 := hR.cell D0.out (by simp)); exact exec_val (c := .slice ya yn yc) (wanted_none rfl) (by go_simp) rfl
            case o8 => intro aR wR hR; replace hR := hR.undrew; intro v29 h29 e29; replace e29 : v29 = .slice ya yn yc := e29; subst e29; exact exec_val (c := .int .i64 ((yn : Nat) : Int)) (wanted_none rfl) (by go_simp) rfl
            case o9 => intro aR wR hR; replace hR := hR.undrew; intro v26 h26 e26; replace e26 : v26 = .int .i64 ((xn : Nat) : Int) := e26; subst e26; intro v30 h30 e30; replace e30 : v30 = .int .i64 ((yn : Nat) : Int) := e30; subst e30; exact exec_val (c := .bool true) (wanted_none rfl) (by go_simp) rfl
            case o10 => intro aR wR hR; replace hR := hR.undrew; intro v31 h31 e31; replace e31 : v31 = .bool true := e31; subst e31; exact exec_val (c := .bool true) (wanted_none rfl) (by go_simp) rfl
            case o11 => intro aR wR hR; replace hR := hR.undrew; intro v32 h32 e32; replace e32 : v32 = .bool true := e32; subst e32; exact exec_pass (wanted_not (b := false) (t := 32) rfl rfl h32) rfl
            case o12 => intro aR wR hR; replace hR := hR.undrew; intro v32 h32 e32; replace e32 : v32 = .bool true := e32; subst e32; exact exec_pass (wanted_not (b := false) (t := 32) rfl rfl h32) rfl
            case o13 => intro aR wR hR; replace hR := hR.undrew; intro v32 h32 e32; replace e32 : v32 = .bool true := e32; subst e32; exact exec_pass (wanted_not (b := false) (t := 32) rfl rfl h32) rfl
            case o14 => intro aR wR hR; replace hR := hR.undrew; intro v32 h32 e32; replace e32 : v32 = .bool true := e32; subst e32; exact exec_pass (wanted_not (b := false) (t := 32) rfl rfl h32) rfl
            case o15 => intro aR wR hR; replace hR := hR.undrew; intro v32 h32 e32; replace e32 : v32 = .bool true := e32; subst e32; exact exec_pass (wanted_not (b := false) (t := 32) rfl rfl h32) rfl
            case o16 => intro aR wR hR; replace hR := hR.undrew; intro v32 h32 e32; replace e32 : v32 = .bool true := e32; subst e32; exact exec_pass (wanted_not (b := false) (t := 32) rfl rfl h32) rfl
            case o17 => intro aR wR hR; replace hR := hR.undrew; intro v32 h32 e32; replace e32 : v32 = .bool true := e32; subst e32; intro v38 h38 e38; replace e38 : v38 = undef := e38; subst e38; exact exec_val (c := (.bool true)) (wanted_none rfl) (by go_simp) rfl
          · intro vs wR hR hV
            obtain ⟨e0, e1, e2, e3, e4, e5, e6, e7, e8, e9, e10, e11, e12, e13, e14, e15, e16, e17, -⟩ := hV
            replace e0 : vs 0 = .slice (some ⟨b, off, none⟩) m rc := e0
            replace e1 : vs 1 = .int .i64 (i : Int) := e1
            replace e2 : vs 2 = .pointer (some ⟨b, off + i, none⟩) := e2
            replace e3 : vs 3 = .slice xa xn xc := e3
            replace e4 : vs 4 = .int .i64 ((xn : Nat) : Int) := e4
            replace e5 : vs 5 = .slice (some ⟨b, off, none⟩) m rc := e5
            replace e6 : vs 6 = .pointer (some ⟨b, off, none⟩) := e6
            replace e7 : vs 7 = .slice ya yn yc := e7
            replace e8 : vs 8 = .int .i64 ((yn : Nat) : Int) := e8
            replace e9 : vs 9 = .bool true := e9
            replace e10 : vs 10 = .bool true := e10
            replace e11 : vs 11 = undef := e11
            replace e12 : vs 12 = undef := e12
            replace e13 : vs 13 = undef := e13
            replace e14 : vs 14 = undef := e14
            replace e15 : vs 15 = undef := e15
            replace e16 : vs 16 = undef := e16
            replace e17 : vs 17 = (.bool true) := e17
            simp only [putAll, e0, e1, e2, e3, e4, e5, e6, e7, e8, e9, e10, e11, e12, e13, e14, e15, e16, e17, Nat.reduceAdd, Nat.zero_add]
            clear e0 e1 e2 e3 e4 e5 e6 e7 e8 e9 e10 e11 e12 e13 e14 e15 e16 e17
            try simp only [List.setIfInBounds_toArray, List.set_cons_succ, List.set_cons_zero]
            go_wp2_with fail
            go_ret
            exact ⟨fitB_no _ _, HKW.out.tr hR⟩
      · obtain rfl : i = m := by omega
        have HBW : Hid (∀ W, Kp [] wo W → W.heap[w.heap.size]? = some (.cells #[.int .u8 0, .slice none 0 0, .int .i64 out, .int .u8 cmp, .int .u8 v.k, .int .i64 v.n, .string v.s] 53)) := Lib.hid (fun W hW => (HK.out.tr hW).get HB.out (by simp))
        have HF := Lib.hid HX.out
        by_cases hm0 : i = 0
        · subst hm0
          go_wp2_with first
            | (refine wpList_load_row rfl 53 _ rfl w.heap.size rfl 53 #[.int .u8 0, .slice none 0 0, .int .i64 out, .int .u8 cmp, .int .u8 v.k, .int .i64 v.n, .string v.s] (0, 0) _ (HBW.out _ (Kp.refl _ _)) Try.underlying53 rfl (by kernel_rfl) ?_)
            | (go_at_call 52; refine (HMY.out _ _ _ _).mono ?_; rintro e w5 ⟨rfl, kp5⟩)
          go_ret
          exact ⟨⟨true, rfl, fun _ => ⟨by omega, HF.out⟩⟩, HKW.out.tr kp5⟩
        · have hpos : decide (0 < i) = true := by simp; omega
          obtain ⟨b, off, ya, yn, yc, rfl, d0, hyn, hyr⟩ := (HR.out.keep0 HKW.out).at' 0 (by rw [← HM.out]; omega)
          have D0 : Hid (wo.cell? ⟨b, off, none⟩ = some (.slice ya yn yc)) := Lib.hid d0
          replace d0 := D0.out
          have hy20 : yn ≤ 20 := by rw [hyn]; exact (HF.out 0 (by omega)).2
          have HYN := Lib.hid hyn
          have HYR := Lib.hid hyr
          clear hyn hyr
          generalize rowA hs 0 = yr at *
          go_wp2_with fail
          go_loopw [5, 84] (fun vo vk wr => ∃ (k : Nat) (ado : Option Addr) (capo : Nat) (zs : List Int), k ≤ yn ∧ vk = .int .i64 k ∧ vo = .slice ado k capo ∧ Hid (k = zs.length) ∧ Hid (Own wr wo.heap.size 5 .u8 ado capo zs) ∧ Hid (Kp [] wo wr)) (fun _ vk _ => yn - (intOf vk).toNat)
          case atStart => exact ⟨0, none, 0, [], Nat.zero_le _, rfl, rfl, Lib.hid rfl, Lib.hid (Own.nil _ _ _ _), Lib.hid (Kp.refl _ _)⟩
          case round =>
            obtain ⟨k, ado, capo, zs, hk, rfl, rfl, HZ, HO, HKI⟩ := hrel
            obtain ⟨wi, rfl⟩ : ∃ wi : World, wi = wr := ⟨_, rfl⟩
            by_cases hlk : k < yn
            · obtain ⟨b2, off2, rfl, hy⟩ := vals_at (RdV.keep0 HYR.out HKI.out) (s := k) (by rw [← HYN.out]; exact hlk)
              obtain ⟨v0, v1, v2⟩ := hy wi (Kp.refl _ _)
              generalize atV yr k = vy at *
              have d1 := HKI.out.cell D0.out (by simp)
              have HSZ : Hid (wo.heap.size ≤ wi.heap.size) := Lib.hid HKI.out.size
              clear hy d0
              go_wp2_with (at_builtin; refine wpList_app rfl (.tmp 87) (.tmp 95) 76 76 rfl wo.heap.size 5 .u8 1 Try.underlying76 infoU8 ado capo k zs HZ.out [vy.k] _ 1 rfl rfl rfl (HO.out.alloc _) (src_one Try.underlying76 (World.cell?_alloc_at _ _ _ _ rfl)) (by omega) (by omega) (by have := HSZ.out; simp; omega) ?_; intro ad7 cap7 w7 ho7 kp7 hob7 _; have HO7 := Lib.hid ho7; have HK7 := Lib.hid ((HKI.out.alloc _).trans kp7 (U := []) (by simp) (fun y hy => .inr (HO.out.ob_ge y hy).1)); clear ho7 kp7 hob7)
              go_roundw
              case rel => exact ⟨k + 1, ad7, cap7, zs ++ [vy.k], hlk, by go_num, rfl, Lib.hid (by simp; exact HZ.out), HO7, HK7⟩
              case measure => simp [intOf]; omega
            · have HBX := Lib.hid (HBW.out _ HKI.out)
              have HKN := Lib.hid (HKW.out.tr HKI.out)
              go_wp2_with first
                | (refine wpList_load_row rfl 53 _ rfl w.heap.size rfl 53 #[.int .u8 0, .slice none 0 0, .int .i64 out, .int .u8 cmp, .int .u8 v.k, .int .i64 v.n, .string v.s] (0, 0) _ HBX.out Try.underlying53 rfl (by kernel_rfl) ?_)
                | (go_at_call 52; refine (HMY.out _ _ _ _).mono ?_; rintro e w5 ⟨rfl, kp5⟩)
              go_ret
              exact ⟨⟨true, rfl, fun _ => ⟨by omega, HF.out⟩⟩, HKN.out.tr kp5⟩
end Go.Proofs.Ytfacpfogdcefpaa
