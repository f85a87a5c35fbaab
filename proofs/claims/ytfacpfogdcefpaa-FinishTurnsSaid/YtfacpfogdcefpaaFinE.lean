/-
  Finishing: what the law's own functions tell.
-/
import Derived.Test.YtfacpfogdcefpaaFinD
namespace Go.Proofs.Ytfacpfogdcefpaa
open Go.RowKit Go.Shelf
set_option linter.unusedSimpArgs false
set_option linter.unusedVariables false
set_option maxRecDepth 100000

set_option maxHeartbeats 800000 in
theorem r27Same_any (a0 : Option Addr) (c0 n : Nat) (a : List Hd) (hn : n = a.length) (b0 : Option Addr) (c1 m : Nat) (b : List Hd) (hm : m = b.length) (w : World) (ha : RdR w a0 c0 a) (hb : RdR w b0 c1 b) :
    Calls Try.prog 28 #[.slice a0 n c0, .slice b0 m c1] w fun e w' => e = .returned (.bool (sameR a b)) ∧ Kp [] w w' := by
  have HN := Lib.hid hn
  have HM := Lib.hid hm
  have HA := Lib.hid ha
  have HB := Lib.hid hb
  have hcap := ha.1.1
  rw [← hn] at hcap
  have hcap2 := ha.1.2.1
  clear hn hm ha hb
  by_cases hne : n = m
  · subst hne
    have HV : Hid (sameR a b = !upto n (difR a b)) := Lib.hid (by rw [sameR, decide_eq_true (by rw [← HN.out, ← HM.out]), ← HN.out]; rfl)
    generalize sameR a b = v at *
    have hbb : ((n : Int) != (n : Int)) = false := by simp
    go_enter Try.func28, Try.ntmps28
    go_wp2_with fail
    go_loopw [5] (fun vi wr => ∃ k : Nat, k ≤ n ∧ vi = .int .i64 k ∧ Hid (upto k (difR a b) = false) ∧ Hid (Kp [] w wr)) (fun vi _ => n - (intOf vi).toNat)
    case atStart => exact ⟨0, Nat.zero_le _, rfl, Lib.hid rfl, Lib.hid (Kp.refl _ _)⟩
    case round =>
      obtain ⟨k, hk, rfl, HX, HK⟩ := hrel
      obtain ⟨wo, rfl⟩ : ∃ wo : World, wo = wr := ⟨_, rfl⟩
      by_cases hlt : k < n
      · obtain ⟨b1, off1, ra, rn, rc, rfl, c1', hr1, hr2⟩ := (HA.out.keep0 HK.out).at' k (by rw [← HN.out]; exact hlt)
        obtain ⟨b2, off2, sa, sn, sc, rfl, c2', hs1, hs2⟩ := (HB.out.keep0 HK.out).at' k (by rw [← HM.out]; exact hlt)
        have HC : Hid (∀ W, Kp [] wo W → Calls Try.prog 21 #[.slice ra rn rc, .slice sa sn sc] W fun e w' => e = .returned (.bool (sameL (rowA a k) (rowA b k))) ∧ Kp [] W w') := Lib.hid (fun W hW => r10Same_any ra rc rn _ hr1 sa sc sn _ hs1 W (hr2.keep0 hW) (hs2.keep0 hW))
        have HST : Hid (sameL (rowA a k) (rowA b k) = true → upto (k + 1) (difR a b) = false) := Lib.hid (fun h => by rw [upto_step, HX.out, difR, h]; rfl)
        have HBD : Hid (sameL (rowA a k) (rowA b k) = false → v = false) := Lib.hid (fun h => by rw [HV.out, upto_yes (k := k) hlt (by rw [difR, h]; rfl)]; rfl)
        generalize sameL (rowA a k) (rowA b k) = q at *
        have C1 := Lib.hid c1'
        have C2 := Lib.hid c2'
        clear hr1 hr2 hs1 hs2 c1' c2'
        go_upto_region 6 with (fail)
        refine wp_region_K (by kernel_rfl) [.val (.slice (some ⟨b1, off1, none⟩) n c0), .val (.int .i64 (k : Int)), .val (.pointer (some ⟨b1, off1 + k, none⟩)), .val (.slice ra rn rc), .val (.slice (some ⟨b2, off2, none⟩) n c1), .val (.int .i64 (k : Int)), .val (.pointer (some ⟨b2, off2 + k, none⟩)), .val (.slice sa sn sc), .val (.bool q), .val (.bool (!q))] [[(0, none)], [(5, none)], [(17, some 0), (18, some 1)], [(19, some 2)], [(1, none)], [(5, none)], [(21, some 4), (22, some 5)], [(23, some 6)], [(20, some 3), (24, some 7)], [(25, some 8)]] rfl (by kernel_rfl) ?_ ?_
        · refine ⟨?o0, ?o1, ?o2, ?o3, ?o4, ?o5, ?o6, ?o7, ?o8, ?o9, trivial⟩
          case o0 => intro aR wR hR; replace hR := hR.undrew; intro (h0 : aR.tmps[0]? = some (.slice (some ⟨b1, off1, none⟩) n c0)); exact exec_val (c := .slice (some ⟨b1, off1, none⟩) n c0) (wanted_none rfl) (by go_simp) rfl
          case o1 => intro aR wR hR; replace hR := hR.undrew; intro (h5 : aR.tmps[5]? = some (.int .i64 (k : Int))); exact exec_val (c := .int .i64 (k : Int)) (wanted_none rfl) (by go_simp) rfl
          case o2 => intro aR wR hR; replace hR := hR.undrew; intro v17 h17 e17; replace e17 : v17 = .slice (some ⟨b1, off1, none⟩) n c0 := e17; subst e17; intro v18 h18 e18; replace e18 : v18 = .int .i64 (k : Int) := e18; subst e18; exact exec_val (c := .pointer (some ⟨b1, off1 + k, none⟩)) (wanted_none rfl) (by go_simp) rfl
          case o3 => intro aR wR hR; replace hR := hR.undrew; intro v19 h19 e19; replace e19 : v19 = .pointer (some ⟨b1, off1 + k, none⟩) := e19; subst e19; (have h1 := hR.cell C1.out (by simp)); exact exec_val (c := .slice ra rn rc) (wanted_none rfl) (by go_simp) rfl
          case o4 => intro aR wR hR; replace hR := hR.undrew; intro (h1 : aR.tmps[1]? = some (.slice (some ⟨b2, off2, none⟩) n c1)); exact exec_val (c := .slice (some ⟨b2, off2, none⟩) n c1) (wanted_none rfl) (by go_simp) rfl
          case o5 => intro aR wR hR; replace hR := hR.undrew; intro (h5 : aR.tmps[5]? = some (.int .i64 (k : Int))); exact exec_val (c := .int .i64 (k : Int)) (wanted_none rfl) (by go_simp) rfl
          case o6 => intro aR wR hR; replace hR := hR.undrew; intro v21 h21 e21; replace e21 : v21 = .slice (some ⟨b2, off2, none⟩) n c1 := e21; subst e21; intro v22 h22 e22; replace e22 : v22 = .int .i64 (k : Int) := e22; subst e22; exact exec_val (c := .pointer (some ⟨b2, off2 + k, none⟩)) (wanted_none rfl) (by go_simp) rfl
          case o7 => intro aR wR hR; replace hR := hR.undrew; intro v23 h23 e23; replace e23 : v23 = .pointer (some ⟨b2, off2 + k, none⟩) := e23; subst e23; (have h1 := hR.cell C2.out (by simp)); exact exec_val (c := .slice sa sn sc) (wanted_none rfl) (by go_simp) rfl
          case o8 => intro aR wR hR; replace hR := hR.undrew; intro v20 h20 e20; replace e20 : v20 = .slice ra rn rc := e20; subst e20; intro v24 h24 e24; replace e24 : v24 = .slice sa sn sc := e24; subst e24; refine exec_call (wanted_none rfl) (by go_simp; exact ⟨rfl, rfl⟩) ?_; refine (HC.out wR hR).mono ?_; rintro e7 w8 ⟨rfl, kp8⟩; exact ⟨_, rfl, rfl, kp8⟩
          case o9 => intro aR wR hR; replace hR := hR.undrew; intro v25 h25 e25; replace e25 : v25 = .bool q := e25; subst e25; exact exec_val (c := .bool (!q)) (wanted_none rfl) (by go_simp) rfl
        · intro vs wR hR hV
          obtain ⟨e0, e1, e2, e3, e4, e5, e6, e7, e8, e9, -⟩ := hV
          replace e0 : vs 0 = .slice (some ⟨b1, off1, none⟩) n c0 := e0
          replace e1 : vs 1 = .int .i64 (k : Int) := e1
          replace e2 : vs 2 = .pointer (some ⟨b1, off1 + k, none⟩) := e2
          replace e3 : vs 3 = .slice ra rn rc := e3
          replace e4 : vs 4 = .slice (some ⟨b2, off2, none⟩) n c1 := e4
          replace e5 : vs 5 = .int .i64 (k : Int) := e5
          replace e6 : vs 6 = .pointer (some ⟨b2, off2 + k, none⟩) := e6
          replace e7 : vs 7 = .slice sa sn sc := e7
          replace e8 : vs 8 = .bool q := e8
          replace e9 : vs 9 = .bool (!q) := e9
          simp only [putAll, e0, e1, e2, e3, e4, e5, e6, e7, e8, e9, Nat.reduceAdd, Nat.zero_add]
          clear e0 e1 e2 e3 e4 e5 e6 e7 e8 e9
          try simp only [List.setIfInBounds_toArray, List.set_cons_succ, List.set_cons_zero]
          cases q
          · have HF := Lib.hid (HBD.out rfl)
            go_wp2_with fail
            go_ret
            exact ⟨by rw [HF.out]; rfl, HK.out.tr hR⟩
          · have HF := Lib.hid (HST.out rfl)
            go_wp2_with fail
            go_roundw
            case rel => exact ⟨k + 1, hlt, by go_num, HF, Lib.hid (HK.out.tr hR)⟩
            case measure => simp [intOf]; omega
      · obtain rfl : k = n := by omega
        go_wp2_with fail
        go_ret
        exact ⟨by rw [HV.out, HX.out]; rfl, HK.out⟩
  · have HV : Hid (sameR a b = false) := Lib.hid (by rw [sameR, decide_eq_false (by rw [← HN.out, ← HM.out]; exact hne)]; rfl)
    have hbb : ((n : Int) != (m : Int)) = true := by simp; omega
    go_enter Try.func28, Try.ntmps28
    go_wp2_with fail
    go_ret
    exact ⟨by rw [HV.out]; rfl, Kp.refl _ _⟩

def iv (n : Int) : V3 := ⟨1, n, ⟨#[]⟩⟩
/-- A row of numbers. -/
theorem row27_any (ad : Option Addr) (cap n : Nat) (ns : List Int) (hn : n = ns.length) (hb : n ≤ 1000) (w : World) (hr : Rd w .i64 ad cap ns) :
    Calls Try.prog 48 #[.slice ad n cap] w fun e w' => ∃ oa oc, e = .returned (.slice oa n oc) ∧ OwnS vcells 3 w' w.heap.size 38 oa oc (ns.map iv) ∧ Kp [] w w' := by
  have HN := Lib.hid hn
  have HR := Lib.hid hr
  clear hn hr
  go_enter Try.func48, Try.ntmps48
  go_wp2_with fail
  go_loopw [3, 8] (fun vo vi wr => ∃ (i : Nat) (ado : Option Addr) (capo : Nat), i ≤ n ∧ vi = .int .i64 i ∧ vo = .slice ado i capo ∧ Hid (OwnS vcells 3 wr w.heap.size 38 ado capo ((ns.take i).map iv)) ∧ Hid (Kp [] w wr)) (fun _ vi _ => n - (intOf vi).toNat)
  case atStart => exact ⟨0, none, 0, Nat.zero_le _, rfl, rfl, Lib.hid (OwnS.nil _ _ _ _ _), Lib.hid (Kp.refl _ _)⟩
  case round =>
    obtain ⟨i, ado, capo, hi, rfl, rfl, HOW, HK⟩ := hrel
    obtain ⟨wo, rfl⟩ : ∃ wo : World, wo = wr := ⟨_, rfl⟩
    by_cases hlt : i < n
    · have hil : i < ns.length := by rw [← HN.out]; exact hlt
      obtain ⟨b, off, rfl, c0⟩ := (HR.out.keep0 HK.out).2.2 i hil
      have HTK : Hid ((ns.take (i + 1)).map iv = (ns.take i).map iv ++ [iv (nth ns i)]) := Lib.hid (by
        rw [List.take_succ_eq_append_getElem hil, List.map_append, show nth ns i = ns[i] by simp [nth, hil]]; rfl)
      have HL : Hid (i = ((ns.take i).map iv).length) := Lib.hid (by simp; omega)
      generalize nth ns i = x at *
      go_wp2_with (at_builtin; refine wpList_appS vlies rfl (.tmp 12) (.tmp 15) 36 36 rfl w.heap.size 38 (.agg #[.int .u8 0, .int .i64 0, .string ⟨#[]⟩]) 32 Try.underlying36 infoVal rfl ado capo i _ HL.out [iv x] _ 1 rfl rfl rfl (HOW.out.keep0 ((Kp.refl [] wo).alloc _)) (src_oneS vlies Try.underlying36 (heap_alloc_at rfl)) (by omega) (by omega) (by have := HK.out.size; simp; omega) ?_; intro ad6 cap6 w6 ho6 kp6 _ _; have HO6 := Lib.hid ho6; have HK6 := Lib.hid ((HK.out.alloc _).trans kp6 (U := []) (by simp) (fun y hy => .inr (HOW.out.ob_ge y hy).1)); clear ho6 kp6)
      go_roundw
      case rel => exact ⟨i + 1, ad6, cap6, hlt, by go_num, rfl, Lib.hid (by rw [HTK.out]; exact HO6.out), HK6⟩
      case measure => simp [intOf]; omega
    · obtain rfl : i = n := by omega
      go_wp2_with fail
      go_ret
      exact ⟨ado, capo, rfl, by have := HOW.out; rwa [HN.out, List.take_length] at this, HK.out⟩
end Go.Proofs.Ytfacpfogdcefpaa
