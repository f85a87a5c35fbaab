/-
  Values: the law of the order.
-/
import Derived.Test.YtlcilinobdjlaaaVal7
import Derived.Test.YtlcilinobdjlaaaRegionD
import Derived.Laws.Tables
namespace Go.Proofs.Ytlcilinobdjlaaa
open Go.RowKit
set_option linter.unusedSimpArgs false
set_option linter.unusedVariables false

theorem setRow_size1 (w : World) (g : Nat) (cs : Array Value) : (w.setRow g cs).heap.size = w.heap.size := by simp [World.setRow]

set_option maxRecDepth 100000 in
set_option maxHeartbeats 1000000 in
theorem valuesOrder_any (k1 n1 : Int) (s1 : ByteArray) (k2 n2 : Int) (s2 : ByteArray) (w : World) :
    Calls Try.prog 8 #[.agg #[.int .u8 k1, .int .i64 n1, .string s1], .agg #[.int .u8 k2, .int .i64 n2, .string s2]] w fun e w' => e = .returned (.bool true) ∧ Kp [] w w' := by
  by_cases h0 : (70000 : Int) < (s1.size : Int)
  · go_enter Try.func8, Try.ntmps8
    go_wp2_with (go_at_call 19; refine (known10_any _).mono ?_; rintro e w' ⟨rfl, kp⟩)
    go_ret
    exact ⟨rfl, (((Kp.refl [] w).alloc _).alloc _).tr kp⟩
  by_cases h1 : (70000 : Int) < (s2.size : Int)
  · go_enter Try.func8, Try.ntmps8
    go_wp2_with (go_at_call 19; refine (known10_any _).mono ?_; rintro e w' ⟨rfl, kp⟩)
    go_ret
    exact ⟨rfl, (((Kp.refl [] w).alloc _).alloc _).tr kp⟩
  go_enter Try.func8, Try.ntmps8
  go_wp2_with fail
  obtain ⟨w1, hw1⟩ : ∃ w1, w1 = (w.alloc (Obj.cells #[Value.int IntKind.u8 k1, Value.int IntKind.i64 n1, Value.string s1] 36)).alloc (Obj.cells #[Value.int IntKind.u8 k2, Value.int IntKind.i64 n2, Value.string s2] 36) := ⟨_, rfl⟩
  have hk1 : Kp [] w w1 := by rw [hw1]; exact ((Kp.refl [] w).alloc _).alloc _
  have hA : w1.heap[w.heap.size]? = some (.cells #[Value.int IntKind.u8 k1, Value.int IntKind.i64 n1, Value.string s1] 36) := by rw [hw1]; exact cells_alloc (heap_alloc_at rfl)
  have hB : w1.heap[w.heap.size + 1]? = some (.cells #[Value.int IntKind.u8 k2, Value.int IntKind.i64 n2, Value.string s2] 36) := by rw [hw1]; exact heap_alloc_at (by simp)
  rw [← hw1]
  have H1 := Lib.hid (cells3 hA)
  have H2 := Lib.hid (cells3 hB)
  have hlt2 : w.heap.size + 1 < w1.heap.size := lt_of_heap hB
  have hlt1 : w.heap.size < w1.heap.size := lt_of_heap hA
  clear hA hB hw1
  refine wp_region_DS (by kernel_rfl) [] [.val (.pointer (some ⟨w.heap.size, 1, none⟩)), .val (.int .i64 n1), .val (.agg #[.int .u8 1, .int .i64 n1, .string ⟨#[]⟩]), .val (.pointer (some ⟨w.heap.size + 1, 2, none⟩)), .val (.string s2), .val (.agg #[.int .u8 2, .int .i64 0, .string s2]), .var w1.heap.size (by simp) #[.int .u8 0, .int .i64 0, .string ⟨#[]⟩] 36, .var w1.heap.size (by simp) #[.int .u8 0, .int .i64 0, .string ⟨#[]⟩] 36] [[(2, none)], [(18, some 0)], [(19, some 1)], [(3, none)], [(21, some 3)], [(22, some 4)], [], []] [] (fun _ _ => True) 8 rfl (by kernel_rfl) (by kernel_rfl) (by kernel_rfl) (by kernel_rfl) (by kernel_rfl) (by simp) (fun _ _ _ h _ => h) trivial [(6, 7), (7, 6)] (by intro i j h; simp at h ⊢; omega) ?_ ?_
  · refine (ObD.free rfl ?o0 (ObD.free rfl ?o1 (ObD.free rfl ?o2 (ObD.free rfl ?o3 (ObD.free rfl ?o4 (ObD.free rfl ?o5 (ObD.free rfl ?o6 (ObD.free rfl ?o7 trivial))))))))
    case o0 => intro aR wR mR hR hI; replace hR := hR.undrew; intro (h2 : aR.tmps[2]? = some (.pointer (some ⟨w.heap.size, 0, none⟩))); exact exec_val (c := .pointer (some ⟨w.heap.size, 1, none⟩)) (wanted_none rfl) (by go_simp) ⟨rfl, notD rfl⟩
    case o1 => intro aR wR mR hR hI; replace hR := hR.undrew; intro v18 h18 e18; replace e18 : v18 = .pointer (some ⟨w.heap.size, 1, none⟩) := e18; subst e18; (have hc := hR.cell H1.out.2.1 (by simp)); exact exec_val (c := .int .i64 n1) (wanted_none rfl) (by go_simp) ⟨rfl, notD rfl⟩
    case o2 => intro aR wR mR hR hI; replace hR := hR.undrew; intro v19 h19 e19; replace e19 : v19 = .int .i64 n1 := e19; subst e19; refine exec_callD (wanted_none rfl) (by go_simp; exact ⟨rfl, rfl⟩) (fun _ => notD rfl) ?_; refine (vInt_any _ _).mono ?_; rintro e w7 ⟨rfl, kp7⟩; exact ⟨_, rfl, rfl, kp7⟩
    case o3 => intro aR wR mR hR hI; replace hR := hR.undrew; intro (h3 : aR.tmps[3]? = some (.pointer (some ⟨w.heap.size + 1, 0, none⟩))); exact exec_val (c := .pointer (some ⟨w.heap.size + 1, 2, none⟩)) (wanted_none rfl) (by go_simp) ⟨rfl, notD rfl⟩
    case o4 => intro aR wR mR hR hI; replace hR := hR.undrew; intro v21 h21 e21; replace e21 : v21 = .pointer (some ⟨w.heap.size + 1, 2, none⟩) := e21; subst e21; (have hc := hR.cell H2.out.2.2 (by simp)); exact exec_val (c := .string s2) (wanted_none rfl) (by go_simp) ⟨rfl, notD rfl⟩
    case o5 => intro aR wR mR hR hI; replace hR := hR.undrew; intro v22 h22 e22; replace e22 : v22 = .string s2 := e22; subst e22; refine exec_callD (wanted_none rfl) (by go_simp; exact ⟨rfl, rfl⟩) (fun _ => notD rfl) ?_; refine (vText_any _ _).mono ?_; rintro e w7 ⟨rfl, kp7⟩; exact ⟨_, rfl, rfl, kp7⟩
    case o6 => intro aR wR mR hR hI; replace hR := hR.undrew; skip; exact exec_newD (hS := by simp) (wanted_none rfl) (by go_simp) hR.size rfl (fun j hj => by simp at hj; subst hj; exact ⟨_, _, rfl⟩)
    case o7 => intro aR wR mR hR hI; replace hR := hR.undrew; skip; exact exec_newD (hS := by simp) (wanted_none rfl) (by go_simp) hR.size rfl (fun j hj => by simp at hj; subst hj; exact ⟨_, _, rfl⟩)
  · intro vs wR hR hI hV hDF
    have hd0 := hDF 6 7 _ _ _ _ (by simp) rfl rfl rfl rfl
    clear hDF
    obtain ⟨e0, e1, e2, e3, e4, e5, e6, e7, -⟩ := hV
    replace e0 : vs 0 = .pointer (some ⟨w.heap.size, 1, none⟩) := e0
    replace e1 : vs 1 = .int .i64 n1 := e1
    replace e2 : vs 2 = .agg #[.int .u8 1, .int .i64 n1, .string ⟨#[]⟩] := e2
    replace e3 : vs 3 = .pointer (some ⟨w.heap.size + 1, 2, none⟩) := e3
    replace e4 : vs 4 = .string s2 := e4
    replace e5 : vs 5 = .agg #[.int .u8 2, .int .i64 0, .string s2] := e5
    simp only [putAll, List.take_succ_cons, List.take_zero, List.drop_succ_cons, List.drop_zero, e0, e1, e2, e3, e4, e5, Nat.reduceAdd, Nat.zero_add]
    clear e0 e1 e2 e3 e4 e5
    try simp only [List.setIfInBounds_toArray, List.set_cons_succ, List.set_cons_zero]
    obtain ⟨b5, hv5, hb5, h5⟩ := e6
    obtain ⟨b6, hv6, hb6, h6⟩ := e7
    rw [hv5, hv6] at hd0 ⊢
    have hne : b6 ≠ b5 := fun h => hd0 (by rw [h])
    have hK := hk1.tr hR
    clear hd0 hI hv5 hv6
    have g5 := setRow_heap wR b5 _ #[.int .u8 1, .int .i64 n1, .string ⟨#[]⟩] _ _ h5
    have g6 : (wR.setRow b5 #[.int .u8 1, .int .i64 n1, .string ⟨#[]⟩]).heap[b6]? = some (.cells #[.int .u8 0, .int .i64 0, .string ⟨#[]⟩] 36) := by
      rw [setRow_other _ _ _ _ hne]; exact h6
    refine wpList_store_row rfl 36 (.tmp 5) (.tmp 20) rfl b5 #[.int .u8 1, .int .i64 n1, .string ⟨#[]⟩] rfl rfl 36 _ h5 (by kernel_rfl) rfl (by simp [Value.oneCell']) ?_
    refine wpList_store_row rfl 36 (.tmp 6) (.tmp 23) rfl b6 #[.int .u8 2, .int .i64 0, .string s2] rfl rfl 36 _ g6 (by kernel_rfl) rfl (by simp [Value.oneCell']) ?_
    simp only [Act.put]
    have q6 := setRow_heap _ b6 _ #[.int .u8 2, .int .i64 0, .string s2] _ _ g6
    have q5 : ((wR.setRow b5 #[.int .u8 1, .int .i64 n1, .string ⟨#[]⟩]).setRow b6 #[.int .u8 2, .int .i64 0, .string s2]).heap[b5]? = some (.cells #[.int .u8 1, .int .i64 n1, .string ⟨#[]⟩] 36) := by
      rw [setRow_other _ _ _ _ (fun h => hne h.symm)]; exact g5
    have kq : Kp [b5, b6] wR ((wR.setRow b5 #[.int .u8 1, .int .i64 n1, .string ⟨#[]⟩]).setRow b6 #[.int .u8 2, .int .i64 0, .string s2]) := by
      refine ⟨rfl, rfl, rfl, ?_, fun i hi hn => ?_⟩
      · rw [setRow_size1, setRow_size1]; exact Nat.le_refl _
      · simp at hn
        rw [setRow_other _ _ _ _ (by omega), setRow_other _ _ _ _ (by omega)]
    generalize (wR.setRow b5 #[.int .u8 1, .int .i64 n1, .string ⟨#[]⟩]).setRow b6 #[.int .u8 2, .int .i64 0, .string s2] = w2 at *
    have HKF := Lib.hid (show Kp [] w w2 from hK.trans kq (by simp) (fun x hx => .inr (by have := hk1.size; simp at hx; omega)))
    have kp12 : Kp [b5, b6] w1 w2 := hR.trans kq (by simp) (fun x hx => .inl hx)
    have H12 := Lib.hid (And.intro (kp12.cell H1.out.1 (by simp; omega)) (And.intro (kp12.cell H1.out.2.1 (by simp; omega)) (kp12.cell H1.out.2.2 (by simp; omega))))
    have H22 := Lib.hid (And.intro (kp12.cell H2.out.1 (by simp; omega)) (And.intro (kp12.cell H2.out.2.1 (by simp; omega)) (kp12.cell H2.out.2.2 (by simp; omega))))
    have H5 := Lib.hid (cells3 q5)
    have H6 := Lib.hid (cells3 q6)
    obtain ⟨mv, hmv⟩ : ∃ mv, mv = mayV k1 n1 s1 := ⟨_, rfl⟩
    obtain ⟨cv, hcv⟩ : ∃ cv, cv = cmpV k1 n1 s1 k2 n2 s2 := ⟨_, rfl⟩
    have HM := Lib.hid hmv
    have HC := Lib.hid hcv
    have hz1 : s1.size ≤ 1000000 := by omega
    have hz2 : s2.size ≤ 1000000 := by omega
    clear hmv hcv q5 q6 kq kp12 g5 g6 h5 h6 hR hK hk1 H1 H2 hlt1 hlt2 hb5 hb6 hne
    go_wp2_with fail
    refine wp_region_K (by kernel_rfl) [.val (.agg #[.int .u8 k1, .int .i64 n1, .string s1]), .val (.bool mv), .val (.agg #[.int .u8 k1, .int .i64 n1, .string s1]), .val (.bool mv), .val (.bool true), .val (.bool true), .val (.agg #[.int .u8 k1, .int .i64 n1, .string s1]), .val (.agg #[.int .u8 k2, .int .i64 n2, .string s2]), .val (.int .i64 cv), .val (.agg #[.int .u8 k1, .int .i64 n1, .string s1]), .val (.agg #[.int .u8 k2, .int .i64 n2, .string s2]), .val (.int .i64 cv), .val (.bool true), .val (.bool true), .val (.bool true), .val (.agg #[.int .u8 1, .int .i64 n1, .string ⟨#[]⟩]), .val (.pointer (some ⟨w.heap.size, 1, none⟩)), .val (.int .i64 n1), .val (.agg #[.int .u8 1, .int .i64 n1, .string ⟨#[]⟩]), .val (.bool true), .val (.bool true), .val (.bool true), .val (.agg #[.int .u8 2, .int .i64 0, .string s2]), .val (.pointer (some ⟨w.heap.size + 1, 2, none⟩)), .val (.string s2), .val (.agg #[.int .u8 2, .int .i64 0, .string s2]), .val (.bool true), .val (.bool true), .val (.bool true), .val (.bool true), .val (.bool true), .val (.bool true)] [[(2, none)], [(24, some 0)], [(2, none)], [(26, some 2)], [(25, some 1), (27, some 3)], [(28, some 4)], [(29, some 5), (2, none)], [(29, some 5), (3, none)], [(29, some 5), (30, some 6), (31, some 7)], [(29, some 5), (2, none)], [(29, some 5), (3, none)], [(29, some 5), (33, some 9), (34, some 10)], [(29, some 5), (32, some 8), (35, some 11)], [(29, some 5), (36, some 12)], [(37, some 13)], [(38, some 14), (5, none)], [(38, some 14), (2, none)], [(38, some 14), (40, some 16)], [(38, some 14), (41, some 17)], [(38, some 14), (39, some 15), (42, some 18)], [(38, some 14), (43, some 19)], [(44, some 20)], [(45, some 21), (6, none)], [(45, some 21), (3, none)], [(45, some 21), (47, some 23)], [(45, some 21), (48, some 24)], [(45, some 21), (46, some 22), (49, some 25)], [(45, some 21), (50, some 26)], [(51, some 27)], [(52, some 28)], [(52, some 28), (53, some 29)], [(54, some 30)]] rfl (by kernel_rfl) ?_ ?_
    · refine ⟨?o0, ?o1, ?o2, ?o3, ?o4, ?o5, ?o6, ?o7, ?o8, ?o9, ?o10, ?o11, ?o12, ?o13, ?o14, ?o15, ?o16, ?o17, ?o18, ?o19, ?o20, ?o21, ?o22, ?o23, ?o24, ?o25, ?o26, ?o27, ?o28, ?o29, ?o30, ?o31, trivial⟩
      case o0 => intro aR wR hR; replace hR := hR.undrew; intro (h2 : aR.tmps[2]? = some (.pointer (some ⟨w.heap.size, 0, none⟩))); (have c0 := hR.cell H12.out.1 (by simp); have c1 := hR.cell H12.out.2.1 (by simp); have c2 := hR.cell H12.out.2.2 (by simp)); exact exec_val (c := .agg #[.int .u8 k1, .int .i64 n1, .string s1]) (wanted_none rfl) (by go_simp) rfl
      case o1 => intro aR wR hR; replace hR := hR.undrew; intro v24 h24 e24; replace e24 : v24 = .agg #[.int .u8 k1, .int .i64 n1, .string s1] := e24; subst e24; refine exec_call (wanted_none rfl) (by go_simp; exact ⟨rfl, rfl⟩) ?_; refine (vMay_any _ _ _ _).mono ?_; rintro e w7 ⟨rfl, kp7⟩; exact ⟨_, rfl, by rw [HM.out]; rfl, kp7⟩
      case o2 => intro aR wR hR; replace hR := hR.undrew; intro (h2 : aR.tmps[2]? = some (.pointer (some ⟨w.heap.size, 0, none⟩))); (have c0 := hR.cell H12.out.1 (by simp); have c1 := hR.cell H12.out.2.1 (by simp); have c2 := hR.cell H12.out.2.2 (by simp)); exact exec_val (c := .agg #[.int .u8 k1, .int .i64 n1, .string s1]) (wanted_none rfl) (by go_simp) rfl
      case o3 => intro aR wR hR; replace hR := hR.undrew; intro v26 h26 e26; replace e26 : v26 = .agg #[.int .u8 k1, .int .i64 n1, .string s1] := e26; subst e26; refine exec_call (wanted_none rfl) (by go_simp; exact ⟨rfl, rfl⟩) ?_; refine (r10May_any _ _ _ _).mono ?_; rintro e w7 ⟨rfl, kp7⟩; exact ⟨_, rfl, by rw [HM.out]; rfl, kp7⟩
      case o4 => intro aR wR hR; replace hR := hR.undrew; intro v25 h25 e25; replace e25 : v25 = .bool mv := e25; subst e25; intro v27 h27 e27; replace e27 : v27 = .bool mv := e27; subst e27; exact exec_val (c := .bool true) (wanted_none rfl) (by go_simp) rfl
      case o5 => intro aR wR hR; replace hR := hR.undrew; intro v28 h28 e28; replace e28 : v28 = .bool true := e28; subst e28; exact exec_val (c := .bool true) (wanted_none rfl) (by go_simp) rfl
      case o6 => intro aR wR hR; replace hR := hR.undrew; intro v29 h29 e29; replace e29 : v29 = .bool true := e29; subst e29; intro (h2 : aR.tmps[2]? = some (.pointer (some ⟨w.heap.size, 0, none⟩))); (have c0 := hR.cell H12.out.1 (by simp); have c1 := hR.cell H12.out.2.1 (by simp); have c2 := hR.cell H12.out.2.2 (by simp)); exact exec_val (c := .agg #[.int .u8 k1, .int .i64 n1, .string s1]) (wanted_yes (b := true) (t := 29) rfl rfl h29) (by go_simp) rfl
      case o7 => intro aR wR hR; replace hR := hR.undrew; intro v29 h29 e29; replace e29 : v29 = .bool true := e29; subst e29; intro (h3 : aR.tmps[3]? = some (.pointer (some ⟨w.heap.size + 1, 0, none⟩))); (have c0 := hR.cell H22.out.1 (by simp); have c1 := hR.cell H22.out.2.1 (by simp); have c2 := hR.cell H22.out.2.2 (by simp)); exact exec_val (c := .agg #[.int .u8 k2, .int .i64 n2, .string s2]) (wanted_yes (b := true) (t := 29) rfl rfl h29) (by go_simp) rfl
      case o8 => intro aR wR hR; replace hR := hR.undrew; intro v29 h29 e29; replace e29 : v29 = .bool true := e29; subst e29; intro v30 h30 e30; replace e30 : v30 = .agg #[.int .u8 k1, .int .i64 n1, .string s1] := e30; subst e30; intro v31 h31 e31; replace e31 : v31 = .agg #[.int .u8 k2, .int .i64 n2, .string s2] := e31; subst e31; refine exec_call (wanted_yes (b := true) (t := 29) rfl rfl h29) (by go_simp; exact ⟨rfl, rfl⟩) ?_; refine (vCompare_any _ _ _ _ _ _ _).mono ?_; rintro e w7 ⟨rfl, kp7⟩; exact ⟨_, rfl, by rw [HC.out]; rfl, kp7⟩
      case o9 => intro aR wR hR; replace hR := hR.undrew; intro v29 h29 e29; replace e29 : v29 = .bool true := e29; subst e29; intro (h2 : aR.tmps[2]? = some (.pointer (some ⟨w.heap.size, 0, none⟩))); (have c0 := hR.cell H12.out.1 (by simp); have c1 := hR.cell H12.out.2.1 (by simp); have c2 := hR.cell H12.out.2.2 (by simp)); exact exec_val (c := .agg #[.int .u8 k1, .int .i64 n1, .string s1]) (wanted_yes (b := true) (t := 29) rfl rfl h29) (by go_simp) rfl
      case o10 => intro aR wR hR; replace hR := hR.undrew; intro v29 h29 e29; replace e29 : v29 = .bool true := e29; subst e29; intro (h3 : aR.tmps[3]? = some (.pointer (some ⟨w.heap.size + 1, 0, none⟩))); (have c0 := hR.cell H22.out.1 (by simp); have c1 := hR.cell H22.out.2.1 (by simp); have c2 := hR.cell H22.out.2.2 (by simp)); exact exec_val (c := .agg #[.int .u8 k2, .int .i64 n2, .string s2]) (wanted_yes (b := true) (t := 29) rfl rfl h29) (by go_simp) rfl
      case o11 => intro aR wR hR; replace hR := hR.undrew; intro v29 h29 e29; replace e29 : v29 = .bool true := e29; subst e29; intro v33 h33 e33; replace e33 : v33 = .agg #[.int .u8 k1, .int .i64 n1, .string s1] := e33; subst e33; intro v34 h34 e34; replace e34 : v34 = .agg #[.int .u8 k2, .int .i64 n2, .string s2] := e34; subst e34; refine exec_call (wanted_yes (b := true) (t := 29) rfl rfl h29) (by go_simp; exact ⟨rfl, rfl⟩) ?_; refine (r10Compare_any _ _ _ _ _ _ _ hz1 hz2).mono ?_; rintro e w7 ⟨rfl, kp7⟩; exact ⟨_, rfl, by rw [HC.out, ← cmpL_V]; rfl, kp7⟩
      case o12 => intro aR wR hR; replace hR := hR.undrew; intro v29 h29 e29; replace e29 : v29 = .bool true := e29; subst e29; intro v32 h32 e32; replace e32 : v32 = .int .i64 cv := e32; subst e32; intro v35 h35 e35; replace e35 : v35 = .int .i64 cv := e35; subst e35; exact exec_val (c := .bool true) (wanted_yes (b := true) (t := 29) rfl rfl h29) (by go_simp) rfl
      case o13 => intro aR wR hR; replace hR := hR.undrew; intro v29 h29 e29; replace e29 : v29 = .bool true := e29; subst e29; intro v36 h36 e36; replace e36 : v36 = .bool true := e36; subst e36; exact exec_val (c := .bool true) (wanted_none rfl) (by go_simp) rfl
      case o14 => intro aR wR hR; replace hR := hR.undrew; intro v37 h37 e37; replace e37 : v37 = .bool true := e37; subst e37; exact exec_val (c := .bool true) (wanted_none rfl) (by go_simp) rfl
      case o15 => intro aR wR hR; replace hR := hR.undrew; intro v38 h38 e38; replace e38 : v38 = .bool true := e38; subst e38; intro (h5 : aR.tmps[5]? = some (.pointer (some ⟨b5, 0, none⟩))); (have c0 := hR.cell H5.out.1 (by simp); have c1 := hR.cell H5.out.2.1 (by simp); have c2 := hR.cell H5.out.2.2 (by simp)); exact exec_val (c := .agg #[.int .u8 1, .int .i64 n1, .string ⟨#[]⟩]) (wanted_yes (b := true) (t := 38) rfl rfl h38) (by go_simp) rfl
      case o16 => intro aR wR hR; replace hR := hR.undrew; intro v38 h38 e38; replace e38 : v38 = .bool true := e38; subst e38; intro (h2 : aR.tmps[2]? = some (.pointer (some ⟨w.heap.size, 0, none⟩))); exact exec_val (c := .pointer (some ⟨w.heap.size, 1, none⟩)) (wanted_yes (b := true) (t := 38) rfl rfl h38) (by go_simp) rfl
      case o17 => intro aR wR hR; replace hR := hR.undrew; intro v38 h38 e38; replace e38 : v38 = .bool true := e38; subst e38; intro v40 h40 e40; replace e40 : v40 = .pointer (some ⟨w.heap.size, 1, none⟩) := e40; subst e40; (have c1 := hR.cell H12.out.2.1 (by simp)); exact exec_val (c := .int .i64 n1) (wanted_yes (b := true) (t := 38) rfl rfl h38) (by go_simp) rfl
      case o18 => intro aR wR hR; replace hR := hR.undrew; intro v38 h38 e38; replace e38 : v38 = .bool true := e38; subst e38; intro v41 h41 e41; replace e41 : v41 = .int .i64 n1 := e41; subst e41; (skip); exact exec_val (c := .agg #[.int .u8 1, .int .i64 n1, .string ⟨#[]⟩]) (wanted_yes (b := true) (t := 38) rfl rfl h38) (by go_simp) rfl
      case o19 => intro aR wR hR; replace hR := hR.undrew; intro v38 h38 e38; replace e38 : v38 = .bool true := e38; subst e38; intro v39 h39 e39; replace e39 : v39 = .agg #[.int .u8 1, .int .i64 n1, .string ⟨#[]⟩] := e39; subst e39; intro v42 h42 e42; replace e42 : v42 = .agg #[.int .u8 1, .int .i64 n1, .string ⟨#[]⟩] := e42; subst e42; exact exec_val (c := .bool true) (wanted_yes (b := true) (t := 38) rfl rfl h38) (by go_simp) rfl
      case o20 => intro aR wR hR; replace hR := hR.undrew; intro v38 h38 e38; replace e38 : v38 = .bool true := e38; subst e38; intro v43 h43 e43; replace e43 : v43 = .bool true := e43; subst e43; exact exec_val (c := .bool true) (wanted_none rfl) (by go_simp) rfl
      case o21 => intro aR wR hR; replace hR := hR.undrew; intro v44 h44 e44; replace e44 : v44 = .bool true := e44; subst e44; exact exec_val (c := .bool true) (wanted_none rfl) (by go_simp) rfl
      case o22 => intro aR wR hR; replace hR := hR.undrew; intro v45 h45 e45; replace e45 : v45 = .bool true := e45; subst e45; intro (h6 : aR.tmps[6]? = some (.pointer (some ⟨b6, 0, none⟩))); (have c0 := hR.cell H6.out.1 (by simp); have c1 := hR.cell H6.out.2.1 (by simp); have c2 := hR.cell H6.out.2.2 (by simp)); exact exec_val (c := .agg #[.int .u8 2, .int .i64 0, .string s2]) (wanted_yes (b := true) (t := 45) rfl rfl h45) (by go_simp) rfl
      case o23 => intro aR wR hR; replace hR := hR.undrew; intro v45 h45 e45; replace e45 : v45 = .bool true := e45; subst e45; intro (h3 : aR.tmps[3]? = some (.pointer (some ⟨w.heap.size + 1, 0, none⟩))); exact exec_val (c := .pointer (some ⟨w.heap.size + 1, 2, none⟩)) (wanted_yes (b := true) (t := 45) rfl rfl h45) (by go_simp) rfl
      case o24 => intro aR wR hR; replace hR := hR.undrew; intro v45 h45 e45; replace e45 : v45 = .bool true := e45; subst e45; intro v47 h47 e47; replace e47 : v47 = .pointer (some ⟨w.heap.size + 1, 2, none⟩) := e47; subst e47; (have c2 := hR.cell H22.out.2.2 (by simp)); exact exec_val (c := .string s2) (wanted_yes (b := true) (t := 45) rfl rfl h45) (by go_simp) rfl
      case o25 => intro aR wR hR; replace hR := hR.undrew; intro v45 h45 e45; replace e45 : v45 = .bool true := e45; subst e45; intro v48 h48 e48; replace e48 : v48 = .string s2 := e48; subst e48; (skip); exact exec_val (c := .agg #[.int .u8 2, .int .i64 0, .string s2]) (wanted_yes (b := true) (t := 45) rfl rfl h45) (by go_simp) rfl
      case o26 => intro aR wR hR; replace hR := hR.undrew; intro v45 h45 e45; replace e45 : v45 = .bool true := e45; subst e45; intro v46 h46 e46; replace e46 : v46 = .agg #[.int .u8 2, .int .i64 0, .string s2] := e46; subst e46; intro v49 h49 e49; replace e49 : v49 = .agg #[.int .u8 2, .int .i64 0, .string s2] := e49; subst e49; exact exec_val (c := .bool true) (wanted_yes (b := true) (t := 45) rfl rfl h45) (by go_simp) rfl
      case o27 => intro aR wR hR; replace hR := hR.undrew; intro v45 h45 e45; replace e45 : v45 = .bool true := e45; subst e45; intro v50 h50 e50; replace e50 : v50 = .bool true := e50; subst e50; exact exec_val (c := .bool true) (wanted_none rfl) (by go_simp) rfl
      case o28 => intro aR wR hR; replace hR := hR.undrew; intro v51 h51 e51; replace e51 : v51 = .bool true := e51; subst e51; exact exec_val (c := .bool true) (wanted_none rfl) (by go_simp) rfl
      case o29 => intro aR wR hR; replace hR := hR.undrew; intro v52 h52 e52; replace e52 : v52 = .bool true := e52; subst e52; refine exec_call (wanted_yes (b := true) (t := 52) rfl rfl h52) (by go_simp; exact ⟨rfl, rfl⟩) ?_; refine (known10_any _).mono ?_; rintro e w7 ⟨rfl, kp7⟩; exact ⟨_, rfl, rfl, kp7⟩
      case o30 => intro aR wR hR; replace hR := hR.undrew; intro v52 h52 e52; replace e52 : v52 = .bool true := e52; subst e52; intro v53 h53 e53; replace e53 : v53 = .bool true := e53; subst e53; exact exec_val (c := .bool true) (wanted_none rfl) (by go_simp) rfl
      case o31 => intro aR wR hR; replace hR := hR.undrew; intro v54 h54 e54; replace e54 : v54 = .bool true := e54; subst e54; exact exec_val (c := .bool true) (wanted_none rfl) (by go_simp) rfl
    · intro vs wR hR hV
      obtain ⟨e0, e1, e2, e3, e4, e5, e6, e7, e8, e9, e10, e11, e12, e13, e14, e15, e16, e17, e18, e19, e20, e21, e22, e23, e24, e25, e26, e27, e28, e29, e30, e31, -⟩ := hV
      replace e0 : vs 0 = .agg #[.int .u8 k1, .int .i64 n1, .string s1] := e0
      replace e1 : vs 1 = .bool mv := e1
      replace e2 : vs 2 = .agg #[.int .u8 k1, .int .i64 n1, .string s1] := e2
      replace e3 : vs 3 = .bool mv := e3
      replace e4 : vs 4 = .bool true := e4
      replace e5 : vs 5 = .bool true := e5
      replace e6 : vs 6 = .agg #[.int .u8 k1, .int .i64 n1, .string s1] := e6
      replace e7 : vs 7 = .agg #[.int .u8 k2, .int .i64 n2, .string s2] := e7
      replace e8 : vs 8 = .int .i64 cv := e8
      replace e9 : vs 9 = .agg #[.int .u8 k1, .int .i64 n1, .string s1] := e9
      replace e10 : vs 10 = .agg #[.int .u8 k2, .int .i64 n2, .string s2] := e10
      replace e11 : vs 11 = .int .i64 cv := e11
      replace e12 : vs 12 = .bool true := e12
      replace e13 : vs 13 = .bool true := e13
      replace e14 : vs 14 = .bool true := e14
      replace e15 : vs 15 = .agg #[.int .u8 1, .int .i64 n1, .string ⟨#[]⟩] := e15
      replace e16 : vs 16 = .pointer (some ⟨w.heap.size, 1, none⟩) := e16
      replace e17 : vs 17 = .int .i64 n1 := e17
      replace e18 : vs 18 = .agg #[.int .u8 1, .int .i64 n1, .string ⟨#[]⟩] := e18
      replace e19 : vs 19 = .bool true := e19
      replace e20 : vs 20 = .bool true := e20
      replace e21 : vs 21 = .bool true := e21
      replace e22 : vs 22 = .agg #[.int .u8 2, .int .i64 0, .string s2] := e22
      replace e23 : vs 23 = .pointer (some ⟨w.heap.size + 1, 2, none⟩) := e23
      replace e24 : vs 24 = .string s2 := e24
      replace e25 : vs 25 = .agg #[.int .u8 2, .int .i64 0, .string s2] := e25
      replace e26 : vs 26 = .bool true := e26
      replace e27 : vs 27 = .bool true := e27
      replace e28 : vs 28 = .bool true := e28
      replace e29 : vs 29 = .bool true := e29
      replace e30 : vs 30 = .bool true := e30
      replace e31 : vs 31 = .bool true := e31
      simp only [putAll, e0, e1, e2, e3, e4, e5, e6, e7, e8, e9, e10, e11, e12, e13, e14, e15, e16, e17, e18, e19, e20, e21, e22, e23, e24, e25, e26, e27, e28, e29, e30, e31, Nat.reduceAdd, Nat.zero_add]
      clear e0 e1 e2 e3 e4 e5 e6 e7 e8 e9 e10 e11 e12 e13 e14 e15 e16 e17 e18 e19 e20 e21 e22 e23 e24 e25 e26 e27 e28 e29 e30 e31
      try simp only [List.setIfInBounds_toArray, List.set_cons_succ, List.set_cons_zero]
      go_wp2_with fail
      go_ret
      exact ⟨rfl, HKF.out.tr hR⟩
end Go.Proofs.Ytlcilinobdjlaaa
