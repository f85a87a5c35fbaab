/-
  Forward: the bytes of an index.
-/
import Derived.Test.YtgdiffabnalidaaForC
import Derived.Test.YtgdiffabnalidaaRegionQ
namespace Go.Proofs.Ytgdiffabnalidaa
open Go.RowKit
set_option linter.unusedSimpArgs false
set_option linter.unusedVariables false

/-- The bytes. -/
def bytesF (n m wd : Nat) (bs : List Int) : List Int := le n 4 ++ le m 4 ++ [(wd : Int)] ++ bs

set_option maxHeartbeats 1600000 in
theorem fBytes_any {p n m wd : Nat} {ad : Option Addr} {cap : Nat} {bs : List Int} {w : World} (h : IsIdx w p n m wd ad cap bs) (hw : 1 ≤ wd) (hw2 : wd ≤ 24) (hn : n ≤ 16777216) (hm : m ≤ 16777216) (hlb : bs.length ≤ 100000000) :
    Calls Try.prog 27 #[.pointer (some ⟨p, 0, none⟩)] w fun e w' => ∃ ad' cap', e = .returned (.slice ad' (bytesF n m wd bs).length cap') ∧ Own w' w.heap.size 5 .u8 ad' cap' (bytesF n m wd bs) ∧ Kp [] w w' := by
  have H := Lib.hid h
  obtain ⟨c0, c1, c2, c3⟩ := idx_cells h
  have hpl : p < w.heap.size := lt_of_heap h.1
  obtain ⟨l, hl⟩ : ∃ l, l = bs.length := ⟨_, rfl⟩
  rw [← hl] at c3 hlb
  have HL := Lib.hid hl
  have HC0 := Lib.hid c0
  have HC1 := Lib.hid c1
  clear h hl
  go_enter Try.func27, Try.ntmps27
  go_wp2_with fail
  refine (fnone_any H.out hw).mono ?_
  rintro e w7 ⟨rfl, h7⟩
  subst w7
  go_upto_region 3 with (fail)
  refine wp_region_K (by kernel_rfl) [.val (.pointer (some ⟨p, 0, none⟩)), .val (.pointer (some ⟨p, 0, none⟩)), .val (.pointer (some ⟨p, 0, none⟩)), .val (.int .i64 (n : Int)), .val (.int .u32 (n : Int)), .own w.heap.size 5 .u8 4 (le n 4), .val (.pointer (some ⟨p, 0, none⟩)), .val (.pointer (some ⟨p, 0, none⟩)), .val (.pointer (some ⟨p, 1, none⟩)), .val (.int .i64 (m : Int)), .val (.int .u32 (m : Int)), .own w.heap.size 5 .u8 8 (le n 4 ++ le m 4), .own w.heap.size 5 .u8 8 (le n 4 ++ le m 4)] [[(0, none)], [(6, some 0)], [(7, some 1)], [(8, some 2)], [(9, some 3)], [(10, some 4)], [(0, none)], [(12, some 6)], [(13, some 7)], [(14, some 8)], [(15, some 9)], [(11, some 5), (16, some 10)], [(17, some 11)]] rfl (by kernel_rfl) ?_ ?_
  · refine ⟨?o0, ?o1, ?o2, ?o3, ?o4, ?o5, ?o6, ?o7, ?o8, ?o9, ?o10, ?o11, ?o12, trivial⟩
    case o0 => intro aR wR hR; replace hR := hR.undrew; intro (h0 : aR.tmps[0]? = some (.pointer (some ⟨p, 0, none⟩))); exact exec_val (c := .pointer (some ⟨p, 0, none⟩)) (wanted_none rfl) (by go_simp) rfl
    case o1 => intro aR wR hR; replace hR := hR.undrew; intro v6 h6 e6; replace e6 : v6 = .pointer (some ⟨p, 0, none⟩) := e6; subst e6; exact exec_val (c := .pointer (some ⟨p, 0, none⟩)) (wanted_none rfl) (by go_simp) rfl
    case o2 => intro aR wR hR; replace hR := hR.undrew; intro v7 h7 e7; replace e7 : v7 = .pointer (some ⟨p, 0, none⟩) := e7; subst e7; exact exec_val (c := .pointer (some ⟨p, 0, none⟩)) (wanted_none rfl) (by go_simp) rfl
    case o3 => intro aR wR hR; replace hR := hR.undrew; intro v8 h8 e8; replace e8 : v8 = .pointer (some ⟨p, 0, none⟩) := e8; subst e8; (have hc := hR.cell HC0.out (by simp)); exact exec_val (c := .int .i64 (n : Int)) (wanted_none rfl) (by go_simp) rfl
    case o4 => intro aR wR hR; replace hR := hR.undrew; intro v9 h9 e9; replace e9 : v9 = .int .i64 (n : Int) := e9; subst e9; (have ex := IntWalk.u32_in (n : Int) (by omega)); exact exec_val (c := .int .u32 (n : Int)) (wanted_none rfl) (by go_simp) rfl
    case o5 => intro aR wR hR; replace hR := hR.undrew; intro v10 h10 e10; replace e10 : v10 = .int .u32 (n : Int) := e10; subst e10; refine exec_call (wanted_none rfl) (by go_simp; exact ⟨rfl, rfl⟩) ?_; refine (appU32_any none 0 0 (n : Int) [] rfl _ (Own.nil wR 0 5 .u8).rd (by omega) (by omega) (by omega)).mono ?_; rintro e7 w8 ⟨ad8, cap8, rfl, ho8, kp8⟩; exact ⟨_, rfl, ⟨ad8, cap8, rfl, by rw [Int.toNat_natCast, List.nil_append] at ho8; exact ho8.mono hR.size⟩, kp8⟩
    case o6 => intro aR wR hR; replace hR := hR.undrew; intro (h0 : aR.tmps[0]? = some (.pointer (some ⟨p, 0, none⟩))); exact exec_val (c := .pointer (some ⟨p, 0, none⟩)) (wanted_none rfl) (by go_simp) rfl
    case o7 => intro aR wR hR; replace hR := hR.undrew; intro v12 h12 e12; replace e12 : v12 = .pointer (some ⟨p, 0, none⟩) := e12; subst e12; exact exec_val (c := .pointer (some ⟨p, 0, none⟩)) (wanted_none rfl) (by go_simp) rfl
    case o8 => intro aR wR hR; replace hR := hR.undrew; intro v13 h13 e13; replace e13 : v13 = .pointer (some ⟨p, 0, none⟩) := e13; subst e13; exact exec_val (c := .pointer (some ⟨p, 1, none⟩)) (wanted_none rfl) (by go_simp) rfl
    case o9 => intro aR wR hR; replace hR := hR.undrew; intro v14 h14 e14; replace e14 : v14 = .pointer (some ⟨p, 1, none⟩) := e14; subst e14; (have hc := hR.cell HC1.out (by simp)); exact exec_val (c := .int .i64 (m : Int)) (wanted_none rfl) (by go_simp) rfl
    case o10 => intro aR wR hR; replace hR := hR.undrew; intro v15 h15 e15; replace e15 : v15 = .int .i64 (m : Int) := e15; subst e15; (have ex := IntWalk.u32_in (m : Int) (by omega)); exact exec_val (c := .int .u32 (m : Int)) (wanted_none rfl) (by go_simp) rfl
    case o11 => intro aR wR hR; replace hR := hR.undrew; intro v11 h11 e11; intro v16 h16 e16; replace e16 : v16 = .int .u32 (m : Int) := e16; subst e16; refine exec_call (wanted_none rfl) (by go_simp; exact ⟨rfl, rfl⟩) ?_; obtain ⟨ad9, cap9, rfl, ho9⟩ := e11; refine (appU32_any ad9 cap9 4 (m : Int) (le n 4) (le_length _ _).symm _ ho9.rd (by omega) (by omega) (by omega)).mono ?_; rintro e7 w8 ⟨ad8, cap8, rfl, ho8, kp8⟩; exact ⟨_, rfl, ⟨ad8, cap8, rfl, by rw [Int.toNat_natCast] at ho8; exact ho8.mono hR.size⟩, kp8⟩
    case o12 => intro aR wR hR; replace hR := hR.undrew; intro v17 h17 e17; exact exec_val (wanted_none rfl) (by go_simp) e17
  · intro vs wR hR hV
    obtain ⟨e0, e1, e2, e3, e4, e5, e6, e7, e8, e9, e10, e11, e12, -⟩ := hV
    replace e0 : vs 0 = .pointer (some ⟨p, 0, none⟩) := e0
    replace e1 : vs 1 = .pointer (some ⟨p, 0, none⟩) := e1
    replace e2 : vs 2 = .pointer (some ⟨p, 0, none⟩) := e2
    replace e3 : vs 3 = .int .i64 (n : Int) := e3
    replace e4 : vs 4 = .int .u32 (n : Int) := e4
    replace e6 : vs 6 = .pointer (some ⟨p, 0, none⟩) := e6
    replace e7 : vs 7 = .pointer (some ⟨p, 0, none⟩) := e7
    replace e8 : vs 8 = .pointer (some ⟨p, 1, none⟩) := e8
    replace e9 : vs 9 = .int .i64 (m : Int) := e9
    replace e10 : vs 10 = .int .u32 (m : Int) := e10
    simp only [putAll, e0, e1, e2, e3, e4, e6, e7, e8, e9, e10, Nat.reduceAdd, Nat.zero_add]
    clear e0 e1 e2 e3 e4 e6 e7 e8 e9 e10
    try simp only [List.setIfInBounds_toArray, List.set_cons_succ, List.set_cons_zero]
    simp only [Nat.reduceAdd, Nat.zero_add] at e12
    obtain ⟨ad3, cap3, hv3, ho3⟩ := e12
    rw [hv3]
    have kp3 := hR
    obtain ⟨w3, hw3⟩ : ∃ w3, w3 = wR := ⟨_, rfl⟩
    rw [← hw3] at kp3 ho3 ⊢
    have HO3 := Lib.hid ho3
    have HK3 := Lib.hid kp3
    have HC2 := Lib.hid (kp3.cell c2 (by simp))
    have HC3 := Lib.hid (kp3.cell c3 (by simp))
    have hs3 := kp3.size
    have HS3 : Hid (Rd w3 .u8 ad cap bs) := Lib.hid (H.out.2.keep0 kp3)
    clear hw3 ho3 kp3
    go_upto_region 4 with (fail)
    by_cases hroom : 8 + 1 ≤ cap3
    · have HNI : p ∉ ob ad3 cap3 := fun hb => by have := (HO3.out.ob_ge _ hb).1; omega
      have hSx : ∀ y ∈ ob ad3 cap3, y < w3.heap.size := fun y hy => (HO3.out.ob_ge y hy).2
      refine wp_region_GS (by kernel_rfl) (ob ad3 cap3) [.val (.slice ad3 8 cap3), .val (.pointer (some ⟨p, 0, none⟩)), .val (.pointer (some ⟨p, 0, none⟩)), .val (.pointer (some ⟨p, 2, none⟩)), .val (.int .i64 (wd : Int)), .val (.int .u8 (wd : Int)), .own w3.heap.size hSx 5 .u8 1 [(wd : Int)], .val (.slice ad3 (8 + 1) cap3), .val (.pointer (some ⟨p, 0, none⟩)), .val (.pointer (some ⟨p, 0, none⟩)), .val (.pointer (some ⟨p, 3, none⟩)), .val (.slice ad l cap)] [[(3, none)], [(0, none)], [(19, some 1)], [(20, some 2)], [(21, some 3)], [(22, some 4)], [(23, some 5)], [(18, some 0), (24, some 6)], [(0, none)], [(26, some 8)], [(27, some 9)], [(28, some 10)]] [7] (fun j wx => Own wx w.heap.size 5 .u8 ad3 cap3 ((le n 4 ++ le m 4) ++ [(wd : Int)].take j)) 12 rfl (by kernel_rfl) (by kernel_rfl) (by kernel_rfl) (by kernel_rfl) (by kernel_rfl) (by simp) (fun _ _ _ h k => h.keep0 k) (by rw [List.take_zero, List.append_nil]; exact HO3.out) ?_ ?_
      · refine (ObG.free rfl ?o0 (ObG.free rfl ?o1 (ObG.free rfl ?o2 (ObG.free rfl ?o3 (ObG.free rfl ?o4 (ObG.free rfl ?o5 (ObG.free rfl ?o6 (ObG.chain 0 rfl ?o7 (ObG.free rfl ?o8 (ObG.free rfl ?o9 (ObG.free rfl ?o10 (ObG.free rfl ?o11 trivial))))))))))))
        case o0 => intro aR wR mR hR hI; replace hR := hR.undrew; intro (h3 : aR.tmps[3]? = some (.slice ad3 8 cap3)); exact exec_val (c := .slice ad3 8 cap3) (wanted_none rfl) (by go_simp) rfl
        case o1 => intro aR wR mR hR hI; replace hR := hR.undrew; intro (h0 : aR.tmps[0]? = some (.pointer (some ⟨p, 0, none⟩))); exact exec_val (c := .pointer (some ⟨p, 0, none⟩)) (wanted_none rfl) (by go_simp) rfl
        case o2 => intro aR wR mR hR hI; replace hR := hR.undrew; intro v19 h19 e19; replace e19 : v19 = .pointer (some ⟨p, 0, none⟩) := e19; subst e19; exact exec_val (c := .pointer (some ⟨p, 0, none⟩)) (wanted_none rfl) (by go_simp) rfl
        case o3 => intro aR wR mR hR hI; replace hR := hR.undrew; intro v20 h20 e20; replace e20 : v20 = .pointer (some ⟨p, 0, none⟩) := e20; subst e20; exact exec_val (c := .pointer (some ⟨p, 2, none⟩)) (wanted_none rfl) (by go_simp) rfl
        case o4 => intro aR wR mR hR hI; replace hR := hR.undrew; intro v21 h21 e21; replace e21 : v21 = .pointer (some ⟨p, 2, none⟩) := e21; subst e21; (have hc := hR.cell HC2.out HNI); exact exec_val (c := .int .i64 (wd : Int)) (wanted_none rfl) (by go_simp) rfl
        case o5 => intro aR wR mR hR hI; replace hR := hR.undrew; intro v22 h22 e22; replace e22 : v22 = .int .i64 (wd : Int) := e22; subst e22; (have ex := IntWalk.u8_in (wd : Int) (by omega)); exact exec_val (c := .int .u8 (wd : Int)) (wanted_none rfl) (by go_simp) rfl
        case o6 => intro aR wR mR hR hI; replace hR := hR.undrew; intro v23 h23 e23; replace e23 : v23 = .int .u8 (wd : Int) := e23; subst e23; exact exec_do (c := .slice (some ⟨wR.heap.size, 0, none⟩) 1 1) (w' := wR.alloc (.cells #[.int .u8 (wd : Int)] 5)) (wanted_none rfl) (by go_simp) ⟨_, _, rfl, .inr ⟨_, _, rfl, hR.size, heap_alloc_at rfl, rfl, by simp, by omega, rfl⟩⟩ ((Kp.refl [] _).alloc _)
        case o7 => intro aR wR hR hI; replace hR := hR.undrew; intro v18 h18 e18; replace e18 : v18 = .slice ad3 8 cap3 := e18; subst e18; intro v24 h24 e24; obtain ⟨ad9, cap9, rfl, ho9⟩ := e24; have hIO : Own wR w.heap.size 5 .u8 ad3 cap3 (le n 4 ++ le m 4) := (by simpa using hI); exact exec_roomS (wanted_none rfl) (.tmp 18) (.tmp 24) 24 24 rfl w.heap.size 5 .u8 1 Try.underlying24 infoU8 ad3 cap3 8 (le n 4 ++ le m 4) (by simp [le_length]) [(wd : Int)] (.slice ad9 1 cap9) 1 rfl (by go_simp) (by go_simp) hIO (src_rd ho9.rd Try.underlying24) hroom (fun w' g1 g2 => ⟨rfl, g2, g1⟩)
        case o8 => intro aR wR mR hR hI; replace hR := hR.undrew; intro (h0 : aR.tmps[0]? = some (.pointer (some ⟨p, 0, none⟩))); exact exec_val (c := .pointer (some ⟨p, 0, none⟩)) (wanted_none rfl) (by go_simp) rfl
        case o9 => intro aR wR mR hR hI; replace hR := hR.undrew; intro v26 h26 e26; replace e26 : v26 = .pointer (some ⟨p, 0, none⟩) := e26; subst e26; exact exec_val (c := .pointer (some ⟨p, 0, none⟩)) (wanted_none rfl) (by go_simp) rfl
        case o10 => intro aR wR mR hR hI; replace hR := hR.undrew; intro v27 h27 e27; replace e27 : v27 = .pointer (some ⟨p, 0, none⟩) := e27; subst e27; exact exec_val (c := .pointer (some ⟨p, 3, none⟩)) (wanted_none rfl) (by go_simp) rfl
        case o11 => intro aR wR mR hR hI; replace hR := hR.undrew; intro v28 h28 e28; replace e28 : v28 = .pointer (some ⟨p, 3, none⟩) := e28; subst e28; (have hc := hR.cell HC3.out HNI); exact exec_val (c := .slice ad l cap) (wanted_none rfl) (by go_simp) rfl
      · intro vs wR hR hI hV
        obtain ⟨e0, e1, e2, e3, e4, e5, e6, e7, e8, e9, e10, e11, -⟩ := hV
        replace e0 : vs 0 = .slice ad3 8 cap3 := e0
        replace e1 : vs 1 = .pointer (some ⟨p, 0, none⟩) := e1
        replace e2 : vs 2 = .pointer (some ⟨p, 0, none⟩) := e2
        replace e3 : vs 3 = .pointer (some ⟨p, 2, none⟩) := e3
        replace e4 : vs 4 = .int .i64 (wd : Int) := e4
        replace e5 : vs 5 = .int .u8 (wd : Int) := e5
        replace e7 : vs 7 = .slice ad3 (8 + 1) cap3 := e7
        replace e8 : vs 8 = .pointer (some ⟨p, 0, none⟩) := e8
        replace e9 : vs 9 = .pointer (some ⟨p, 0, none⟩) := e9
        replace e10 : vs 10 = .pointer (some ⟨p, 3, none⟩) := e10
        replace e11 : vs 11 = .slice ad l cap := e11
        simp only [putAll, List.take_succ_cons, List.take_zero, List.drop_succ_cons, List.drop_zero, e0, e1, e2, e3, e4, e5, e7, e8, e9, e10, e11, Nat.reduceAdd, Nat.zero_add]
        clear e0 e1 e2 e3 e4 e5 e7 e8 e9 e10 e11
        try simp only [List.setIfInBounds_toArray, List.set_cons_succ, List.set_cons_zero]
        have hO7 : Own wR w.heap.size 5 .u8 ad3 cap3 (le n 4 ++ le m 4 ++ [(wd : Int)]) := hI
        have HK7 : Hid (Kp [] w wR) := Lib.hid (HK3.out.trans hR (U := []) (by simp) (fun y hy => .inr (HO3.out.ob_ge y hy).1))
        have HRD : Hid (Rd wR .u8 ad cap bs) := Lib.hid (H.out.2.keep0 HK7.out)
        have hs7 := HK7.out.size
        have HL9 : Hid (9 = (le n 4 ++ le m 4 ++ [(wd : Int)]).length) := Lib.hid (by simp [le_length])
        refine wpList_app rfl (.tmp 25) (.tmp 29) 24 24 rfl w.heap.size 5 .u8 1 Try.underlying24 infoU8 ad3 cap3 9 (le n 4 ++ le m 4 ++ [(wd : Int)]) HL9.out bs (.slice ad l cap) l HL.out rfl rfl hO7 (by rw [HL.out]; exact src_rd HRD.out Try.underlying24) (by omega) (by omega) hs7 ?_
        intro ad9 cap9 w9 ho9 kp9 hob9 _
        have HO9 := Lib.hid ho9
        have HK9 := Lib.hid (HK7.out.trans kp9 (U := []) (by simp) (fun y hy => .inr (hO7.ob_ge y hy).1))
        clear ho9 kp9 hob9
        go_wp2_with fail
        go_ret
        refine ⟨ad9, cap9, ?_, HO9.out, HK9.out⟩
        rw [bytesF, List.length_append, ← HL.out, ← HL9.out]; rfl
    · have hgrow : cap3 < 8 + 1 := by omega
      refine wp_region_GS (by kernel_rfl) [] [.val (.slice ad3 8 cap3), .val (.pointer (some ⟨p, 0, none⟩)), .val (.pointer (some ⟨p, 0, none⟩)), .val (.pointer (some ⟨p, 2, none⟩)), .val (.int .i64 (wd : Int)), .val (.int .u8 (wd : Int)), .own w3.heap.size (by simp) 5 .u8 1 [(wd : Int)], .own w.heap.size (by simp) 5 .u8 (8 + 1) (le n 4 ++ le m 4 ++ [(wd : Int)]), .val (.pointer (some ⟨p, 0, none⟩)), .val (.pointer (some ⟨p, 0, none⟩)), .val (.pointer (some ⟨p, 3, none⟩)), .val (.slice ad l cap)] [[(3, none)], [(0, none)], [(19, some 1)], [(20, some 2)], [(21, some 3)], [(22, some 4)], [(23, some 5)], [(18, some 0), (24, some 6)], [(0, none)], [(26, some 8)], [(27, some 9)], [(28, some 10)]] [] (fun _ _ => True) 12 rfl (by kernel_rfl) (by kernel_rfl) (by kernel_rfl) (by kernel_rfl) (by kernel_rfl) (by simp) (fun _ _ _ h _ => h) trivial ?_ ?_
      · refine (ObG.free rfl ?o0 (ObG.free rfl ?o1 (ObG.free rfl ?o2 (ObG.free rfl ?o3 (ObG.free rfl ?o4 (ObG.free rfl ?o5 (ObG.free rfl ?o6 (ObG.free rfl ?o7 (ObG.free rfl ?o8 (ObG.free rfl ?o9 (ObG.free rfl ?o10 (ObG.free rfl ?o11 trivial))))))))))))
        case o0 => intro aR wR mR hR hI; replace hR := hR.undrew; intro (h3 : aR.tmps[3]? = some (.slice ad3 8 cap3)); exact exec_val (c := .slice ad3 8 cap3) (wanted_none rfl) (by go_simp) rfl
        case o1 => intro aR wR mR hR hI; replace hR := hR.undrew; intro (h0 : aR.tmps[0]? = some (.pointer (some ⟨p, 0, none⟩))); exact exec_val (c := .pointer (some ⟨p, 0, none⟩)) (wanted_none rfl) (by go_simp) rfl
        case o2 => intro aR wR mR hR hI; replace hR := hR.undrew; intro v19 h19 e19; replace e19 : v19 = .pointer (some ⟨p, 0, none⟩) := e19; subst e19; exact exec_val (c := .pointer (some ⟨p, 0, none⟩)) (wanted_none rfl) (by go_simp) rfl
        case o3 => intro aR wR mR hR hI; replace hR := hR.undrew; intro v20 h20 e20; replace e20 : v20 = .pointer (some ⟨p, 0, none⟩) := e20; subst e20; exact exec_val (c := .pointer (some ⟨p, 2, none⟩)) (wanted_none rfl) (by go_simp) rfl
        case o4 => intro aR wR mR hR hI; replace hR := hR.undrew; intro v21 h21 e21; replace e21 : v21 = .pointer (some ⟨p, 2, none⟩) := e21; subst e21; (have hc := hR.cell HC2.out (by simp)); exact exec_val (c := .int .i64 (wd : Int)) (wanted_none rfl) (by go_simp) rfl
        case o5 => intro aR wR mR hR hI; replace hR := hR.undrew; intro v22 h22 e22; replace e22 : v22 = .int .i64 (wd : Int) := e22; subst e22; (have ex := IntWalk.u8_in (wd : Int) (by omega)); exact exec_val (c := .int .u8 (wd : Int)) (wanted_none rfl) (by go_simp) rfl
        case o6 => intro aR wR mR hR hI; replace hR := hR.undrew; intro v23 h23 e23; replace e23 : v23 = .int .u8 (wd : Int) := e23; subst e23; exact exec_do (c := .slice (some ⟨wR.heap.size, 0, none⟩) 1 1) (w' := wR.alloc (.cells #[.int .u8 (wd : Int)] 5)) (wanted_none rfl) (by go_simp) ⟨_, _, rfl, .inr ⟨_, _, rfl, hR.size, heap_alloc_at rfl, rfl, by simp, by omega, rfl⟩⟩ ((Kp.refl [] _).alloc _)
        case o7 => intro aR wR mR hR hI; replace hR := hR.undrew; intro v18 h18 e18; replace e18 : v18 = .slice ad3 8 cap3 := e18; subst e18; intro v24 h24 e24; obtain ⟨ad9, cap9, rfl, ho9⟩ := e24; exact exec_growS (wanted_none rfl) (.tmp 18) (.tmp 24) 24 24 rfl w.heap.size 5 .u8 1 Try.underlying24 infoU8 ad3 cap3 8 (le n 4 ++ le m 4) (by simp [le_length]) [(wd : Int)] (.slice ad9 1 cap9) 1 rfl (by go_simp) (by go_simp) (HO3.out.rd.keep0 hR) (src_rd ho9.rd Try.underlying24) hgrow (by omega) (by omega) (Nat.le_trans hs3 hR.size) (fun ad8 cap8 w' g1 g2 => ⟨ad8, cap8, rfl, g1⟩)
        case o8 => intro aR wR mR hR hI; replace hR := hR.undrew; intro (h0 : aR.tmps[0]? = some (.pointer (some ⟨p, 0, none⟩))); exact exec_val (c := .pointer (some ⟨p, 0, none⟩)) (wanted_none rfl) (by go_simp) rfl
        case o9 => intro aR wR mR hR hI; replace hR := hR.undrew; intro v26 h26 e26; replace e26 : v26 = .pointer (some ⟨p, 0, none⟩) := e26; subst e26; exact exec_val (c := .pointer (some ⟨p, 0, none⟩)) (wanted_none rfl) (by go_simp) rfl
        case o10 => intro aR wR mR hR hI; replace hR := hR.undrew; intro v27 h27 e27; replace e27 : v27 = .pointer (some ⟨p, 0, none⟩) := e27; subst e27; exact exec_val (c := .pointer (some ⟨p, 3, none⟩)) (wanted_none rfl) (by go_simp) rfl
        case o11 => intro aR wR mR hR hI; replace hR := hR.undrew; intro v28 h28 e28; replace e28 : v28 = .pointer (some ⟨p, 3, none⟩) := e28; subst e28; (have hc := hR.cell HC3.out (by simp)); exact exec_val (c := .slice ad l cap) (wanted_none rfl) (by go_simp) rfl
      · intro vs wR hR hI hV
        obtain ⟨e0, e1, e2, e3, e4, e5, e6, e7, e8, e9, e10, e11, -⟩ := hV
        replace e0 : vs 0 = .slice ad3 8 cap3 := e0
        replace e1 : vs 1 = .pointer (some ⟨p, 0, none⟩) := e1
        replace e2 : vs 2 = .pointer (some ⟨p, 0, none⟩) := e2
        replace e3 : vs 3 = .pointer (some ⟨p, 2, none⟩) := e3
        replace e4 : vs 4 = .int .i64 (wd : Int) := e4
        replace e5 : vs 5 = .int .u8 (wd : Int) := e5
        replace e8 : vs 8 = .pointer (some ⟨p, 0, none⟩) := e8
        replace e9 : vs 9 = .pointer (some ⟨p, 0, none⟩) := e9
        replace e10 : vs 10 = .pointer (some ⟨p, 3, none⟩) := e10
        replace e11 : vs 11 = .slice ad l cap := e11
        simp only [putAll, List.take_succ_cons, List.take_zero, List.drop_succ_cons, List.drop_zero, e0, e1, e2, e3, e4, e5, e8, e9, e10, e11, Nat.reduceAdd, Nat.zero_add]
        clear e0 e1 e2 e3 e4 e5 e8 e9 e10 e11
        try simp only [List.setIfInBounds_toArray, List.set_cons_succ, List.set_cons_zero]
        simp only [Nat.reduceAdd, Nat.zero_add] at e7
        obtain ⟨ad7, cap7, hv7, hO7⟩ := e7
        rw [hv7]
        have HK7 : Hid (Kp [] w wR) := Lib.hid (HK3.out.tr hR)
        have HRD : Hid (Rd wR .u8 ad cap bs) := Lib.hid (H.out.2.keep0 HK7.out)
        have hs7 := HK7.out.size
        have HL9 : Hid (9 = (le n 4 ++ le m 4 ++ [(wd : Int)]).length) := Lib.hid (by simp [le_length])
        refine wpList_app rfl (.tmp 25) (.tmp 29) 24 24 rfl w.heap.size 5 .u8 1 Try.underlying24 infoU8 ad7 cap7 9 (le n 4 ++ le m 4 ++ [(wd : Int)]) HL9.out bs (.slice ad l cap) l HL.out rfl rfl hO7 (by rw [HL.out]; exact src_rd HRD.out Try.underlying24) (by omega) (by omega) hs7 ?_
        intro ad9 cap9 w9 ho9 kp9 hob9 _
        have HO9 := Lib.hid ho9
        have HK9 := Lib.hid (HK7.out.trans kp9 (U := []) (by simp) (fun y hy => .inr (hO7.ob_ge y hy).1))
        clear ho9 kp9 hob9
        go_wp2_with fail
        go_ret
        refine ⟨ad9, cap9, ?_, HO9.out, HK9.out⟩
        rw [bytesF, List.length_append, ← HL.out, ← HL9.out]; rfl
end Go.Proofs.Ytgdiffabnalidaa
