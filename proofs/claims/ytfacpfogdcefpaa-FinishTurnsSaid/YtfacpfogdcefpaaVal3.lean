/-
  Values: the document's order.
-/
import Derived.Test.YtfacpfogdcefpaaVal2
namespace Go.Proofs.Ytfacpfogdcefpaa
open Go.RowKit
set_option linter.unusedSimpArgs false
set_option linter.unusedVariables false
set_option maxRecDepth 100000

def lessV (k n : Int) (s : ByteArray) (k' n' : Int) (s' : ByteArray) : Bool :=
  if k = k' then (if n = n' then Op.bytesLess s.toList s'.toList else decide (n < n')) else decide (k < k')

/-- The i-th byte. -/
def byt (s : ByteArray) (i : Nat) : Int := ((s.toList.getD i 0).toNat : Int)
theorem bl_drop (s t : ByteArray) (i : Nat) (h : i < s.size) (h' : i < t.size) : Op.bytesLess (s.toList.drop i) (t.toList.drop i) = if byt s i = byt t i then Op.bytesLess (s.toList.drop (i + 1)) (t.toList.drop (i + 1)) else decide (byt s i < byt t i) := by
  have e1 : s.toList.length = s.size := by rw [ByteArray.toList_eq]; simp
  have e2 : t.toList.length = t.size := by rw [ByteArray.toList_eq]; simp
  rw [List.drop_eq_getElem_cons (show i < s.toList.length by omega), List.drop_eq_getElem_cons (show i < t.toList.length by omega), Op.bytesLess]
  have f1 : byt s i = ((s.toList[i]'(by omega)).toNat : Int) := by simp [byt, e1, h]
  have f2 : byt t i = ((t.toList[i]'(by omega)).toNat : Int) := by simp [byt, e2, h']
  rw [f1, f2]
  by_cases hx : s.toList[i]'(by omega) = t.toList[i]'(by omega)
  · simp [hx, UInt8.lt_irrefl]
  · have : ¬ (((s.toList[i]'(by omega)).toNat : Int) = ((t.toList[i]'(by omega)).toNat : Int)) := by
      rw [Int.natCast_inj, UInt8.toNat_inj]; exact hx
    rw [if_neg this]
    simp [hx, UInt8.lt_iff_toNat_lt]

theorem byt_at (s : ByteArray) (i : Nat) (h : i < s.size) : byt s i = ((s[i]'h).toNat : Int) := by
  have e : s.toList.getD i 0 = s[i]'h := by
    rw [ByteArray.toList_eq, List.getD_eq_getElem?_getD, List.getElem?_eq_getElem (by simpa using h)]; rfl
  rw [byt, e]
theorem bl_end (s t : ByteArray) (i : Nat) (h : i = s.size ∨ i = t.size) (h1 : i ≤ s.size) (h2 : i ≤ t.size) : Op.bytesLess (s.toList.drop i) (t.toList.drop i) = decide (s.size < t.size) := by
  have e1 : s.toList.length = s.size := by rw [ByteArray.toList_eq]; simp
  have e2 : t.toList.length = t.size := by rw [ByteArray.toList_eq]; simp
  rcases Nat.lt_or_ge i s.size with k | k
  · have : t.toList.drop i = [] := List.drop_eq_nil_of_le (by omega)
    rw [this, List.drop_eq_getElem_cons (show i < s.toList.length by omega)]
    simp [Op.bytesLess]; omega
  · have : s.toList.drop i = [] := List.drop_eq_nil_of_le (by omega)
    rw [this]
    rcases Nat.lt_or_ge i t.size with k2 | k2
    · rw [List.drop_eq_getElem_cons (show i < t.toList.length by omega)]
      simp [Op.bytesLess]; omega
    · rw [show t.toList.drop i = [] from List.drop_eq_nil_of_le (by omega)]
      simp [Op.bytesLess]; omega

theorem r10Less_any (k n : Int) (s : ByteArray) (k' n' : Int) (s' : ByteArray) (w : World) (hs : s.size ≤ 1000000) (hs' : s'.size ≤ 1000000) :
    Calls Try.prog 36 #[.agg #[.int .u8 k, .int .i64 n, .string s], .agg #[.int .u8 k', .int .i64 n', .string s']] w fun e w' => e = .returned (.bool (lessV k n s k' n' s')) ∧ Kp [] w w' := by
  by_cases hk : k = k'
  · subst hk
    by_cases hn : n = n'
    · subst hn
      go_enter Try.func36, Try.ntmps36
      go_wp2
      obtain ⟨w1, hw1⟩ : ∃ w1, w1 = (w.alloc (Obj.cells #[Value.int IntKind.u8 k, Value.int IntKind.i64 n, Value.string s] 38)).alloc (Obj.cells #[Value.int IntKind.u8 k, Value.int IntKind.i64 n, Value.string s'] 38) := ⟨_, rfl⟩
      have hk1 : Kp [] w w1 := by rw [hw1]; exact ((Kp.refl [] w).alloc _).alloc _
      have hA : w1.heap[w.heap.size]? = some (.cells #[Value.int IntKind.u8 k, Value.int IntKind.i64 n, Value.string s] 38) := by rw [hw1]; exact cells_alloc (heap_alloc_at rfl)
      have hB : w1.heap[w.heap.size + 1]? = some (.cells #[Value.int IntKind.u8 k, Value.int IntKind.i64 n, Value.string s'] 38) := by rw [hw1]; exact heap_alloc_at (by simp)
      rw [← hw1]
      have A2 := cell_of_row w1 _ 2 _ _ _ hA
      have B2 := cell_of_row w1 _ 2 _ _ _ hB
      simp at A2 B2
      have HA2 := Lib.hid A2
      have HB2 := Lib.hid B2
      clear hA hB hw1
      go_loopw [5] (fun i wr => ∃ j : Nat, j ≤ s.size ∧ j ≤ s'.size ∧ i = .int .i64 j ∧ Hid (Kp [] w1 wr) ∧ Hid (Op.bytesLess s.toList s'.toList = Op.bytesLess (s.toList.drop j) (s'.toList.drop j))) (fun i _ => s.size - (intOf i).toNat)
      case atStart => exact ⟨0, Nat.zero_le _, Nat.zero_le _, rfl, Lib.hid (Kp.refl _ _), Lib.hid rfl⟩
      case round =>
        obtain ⟨j, hj, hj', rfl, HK, HO⟩ := hrel
        have A2 := HK.out.cell HA2.out (by simp)
        have B2 := HK.out.cell HB2.out (by simp)
        by_cases hlt : j < s.size ∧ j < s'.size
        · have hd := bl_drop s s' j hlt.1 hlt.2
          obtain ⟨x, hx⟩ : ∃ x, x = byt s j := ⟨_, rfl⟩
          obtain ⟨y, hy⟩ : ∃ y, y = byt s' j := ⟨_, rfl⟩
          rw [← hx, ← hy] at hd
          rw [byt_at s j hlt.1] at hx
          rw [byt_at s' j hlt.2] at hy
          have HX := Lib.hid hx
          have HY := Lib.hid hy
          have HD := Lib.hid hd
          have g1 : decide ((j : Int) < (s.size : Int)) = true := by simpa using hlt.1
          have g2 : decide ((j : Int) < (s'.size : Int)) = true := by simpa using hlt.2
          clear hx hy hd
          by_cases hxy : x = y
          · subst hxy
            go_wp2_with fail
            refine wp_region_K (by kernel_rfl) [.val (.pointer (some ⟨w.heap.size, 2, none⟩)), .val (.string s), .val (.int .i64 (j : Int)), .val (.int .u8 x), .val (.pointer (some ⟨w.heap.size + 1, 2, none⟩)), .val (.string s'), .val (.int .i64 (j : Int)), .val (.int .u8 x), .val (.bool false)] [[(2, none)], [(40, some 0)], [(5, none)], [(41, some 1), (42, some 2)], [(3, none)], [(44, some 4)], [(5, none)], [(45, some 5), (46, some 6)], [(43, some 3), (47, some 7)]] rfl (by kernel_rfl) ?_ ?_
            · refine ⟨?o0, ?o1, ?o2, ?o3, ?o4, ?o5, ?o6, ?o7, ?o8, trivial⟩
              case o0 => intro aR wR hR; replace hR := hR.undrew; intro (h2 : aR.tmps[2]? = some (.pointer (some ⟨w.heap.size, 0, none⟩))); exact exec_val (c := .pointer (some ⟨w.heap.size, 2, none⟩)) (wanted_none rfl) (by go_simp) rfl
              case o1 => intro aR wR hR; replace hR := hR.undrew; intro v40 h40 e40; replace e40 : v40 = .pointer (some ⟨w.heap.size, 2, none⟩) := e40; subst e40; (have hc := hR.cell (HK.out.cell HA2.out (by simp)) (by simp)); exact exec_val (c := .string s) (wanted_none rfl) (by go_simp) rfl
              case o2 => intro aR wR hR; replace hR := hR.undrew; intro (h5 : aR.tmps[5]? = some (.int .i64 (j : Int))); exact exec_val (c := .int .i64 (j : Int)) (wanted_none rfl) (by go_simp) rfl
              case o3 => intro aR wR hR; replace hR := hR.undrew; intro v41 h41 e41; replace e41 : v41 = .string s := e41; subst e41; intro v42 h42 e42; replace e42 : v42 = .int .i64 (j : Int) := e42; subst e42; (have h1 := hlt.1; have h2 : (j : Int) < (s.size : Int) := (by omega); have h3 := HX.out.symm); exact exec_val (c := .int .u8 x) (wanted_none rfl) (by go_simp) rfl
              case o4 => intro aR wR hR; replace hR := hR.undrew; intro (h3 : aR.tmps[3]? = some (.pointer (some ⟨w.heap.size + 1, 0, none⟩))); exact exec_val (c := .pointer (some ⟨w.heap.size + 1, 2, none⟩)) (wanted_none rfl) (by go_simp) rfl
              case o5 => intro aR wR hR; replace hR := hR.undrew; intro v44 h44 e44; replace e44 : v44 = .pointer (some ⟨w.heap.size + 1, 2, none⟩) := e44; subst e44; (have hc := hR.cell (HK.out.cell HB2.out (by simp)) (by simp)); exact exec_val (c := .string s') (wanted_none rfl) (by go_simp) rfl
              case o6 => intro aR wR hR; replace hR := hR.undrew; intro (h5 : aR.tmps[5]? = some (.int .i64 (j : Int))); exact exec_val (c := .int .i64 (j : Int)) (wanted_none rfl) (by go_simp) rfl
              case o7 => intro aR wR hR; replace hR := hR.undrew; intro v45 h45 e45; replace e45 : v45 = .string s' := e45; subst e45; intro v46 h46 e46; replace e46 : v46 = .int .i64 (j : Int) := e46; subst e46; (have h1 := hlt.2; have h2 : (j : Int) < (s'.size : Int) := (by omega); have h3 := HY.out.symm); exact exec_val (c := .int .u8 x) (wanted_none rfl) (by go_simp) rfl
              case o8 => intro aR wR hR; replace hR := hR.undrew; intro v43 h43 e43; replace e43 : v43 = .int .u8 x := e43; subst e43; intro v47 h47 e47; replace e47 : v47 = .int .u8 x := e47; subst e47; exact exec_val (c := .bool false) (wanted_none rfl) (by go_simp) rfl
            · intro vs wR hR hV
              obtain ⟨e0, e1, e2, e3, e4, e5, e6, e7, e8, -⟩ := hV
              replace e0 : vs 0 = .pointer (some ⟨w.heap.size, 2, none⟩) := e0
              replace e1 : vs 1 = .string s := e1
              replace e2 : vs 2 = .int .i64 (j : Int) := e2
              replace e3 : vs 3 = .int .u8 x := e3
              replace e4 : vs 4 = .pointer (some ⟨w.heap.size + 1, 2, none⟩) := e4
              replace e5 : vs 5 = .string s' := e5
              replace e6 : vs 6 = .int .i64 (j : Int) := e6
              replace e7 : vs 7 = .int .u8 x := e7
              replace e8 : vs 8 = .bool false := e8
              simp only [putAll, e0, e1, e2, e3, e4, e5, e6, e7, e8, Nat.reduceAdd, Nat.zero_add]
              clear e0 e1 e2 e3 e4 e5 e6 e7 e8
              try simp only [List.setIfInBounds_toArray, List.set_cons_succ, List.set_cons_zero]

              go_wp2_with fail
              go_roundw
              case rel => exact ⟨j + 1, by omega, by omega, by go_num, Lib.hid (HK.out.tr hR), Lib.hid (by rw [HO.out, HD.out]; simp only [if_true])⟩
              case measure => simp [intOf]; omega
          · have hne : (x != y) = true := by simpa using hxy
            go_wp2_with fail
            refine wp_region_K (by kernel_rfl) [.val (.pointer (some ⟨w.heap.size, 2, none⟩)), .val (.string s), .val (.int .i64 (j : Int)), .val (.int .u8 x), .val (.pointer (some ⟨w.heap.size + 1, 2, none⟩)), .val (.string s'), .val (.int .i64 (j : Int)), .val (.int .u8 y), .val (.bool true)] [[(2, none)], [(40, some 0)], [(5, none)], [(41, some 1), (42, some 2)], [(3, none)], [(44, some 4)], [(5, none)], [(45, some 5), (46, some 6)], [(43, some 3), (47, some 7)]] rfl (by kernel_rfl) ?_ ?_
            · refine ⟨?o0, ?o1, ?o2, ?o3, ?o4, ?o5, ?o6, ?o7, ?o8, trivial⟩
              case o0 => intro aR wR hR; replace hR := hR.undrew; intro (h2 : aR.tmps[2]? = some (.pointer (some ⟨w.heap.size, 0, none⟩))); exact exec_val (c := .pointer (some ⟨w.heap.size, 2, none⟩)) (wanted_none rfl) (by go_simp) rfl
              case o1 => intro aR wR hR; replace hR := hR.undrew; intro v40 h40 e40; replace e40 : v40 = .pointer (some ⟨w.heap.size, 2, none⟩) := e40; subst e40; (have hc := hR.cell (HK.out.cell HA2.out (by simp)) (by simp)); exact exec_val (c := .string s) (wanted_none rfl) (by go_simp) rfl
              case o2 => intro aR wR hR; replace hR := hR.undrew; intro (h5 : aR.tmps[5]? = some (.int .i64 (j : Int))); exact exec_val (c := .int .i64 (j : Int)) (wanted_none rfl) (by go_simp) rfl
              case o3 => intro aR wR hR; replace hR := hR.undrew; intro v41 h41 e41; replace e41 : v41 = .string s := e41; subst e41; intro v42 h42 e42; replace e42 : v42 = .int .i64 (j : Int) := e42; subst e42; (have h1 := hlt.1; have h2 : (j : Int) < (s.size : Int) := (by omega); have h3 := HX.out.symm); exact exec_val (c := .int .u8 x) (wanted_none rfl) (by go_simp) rfl
              case o4 => intro aR wR hR; replace hR := hR.undrew; intro (h3 : aR.tmps[3]? = some (.pointer (some ⟨w.heap.size + 1, 0, none⟩))); exact exec_val (c := .pointer (some ⟨w.heap.size + 1, 2, none⟩)) (wanted_none rfl) (by go_simp) rfl
              case o5 => intro aR wR hR; replace hR := hR.undrew; intro v44 h44 e44; replace e44 : v44 = .pointer (some ⟨w.heap.size + 1, 2, none⟩) := e44; subst e44; (have hc := hR.cell (HK.out.cell HB2.out (by simp)) (by simp)); exact exec_val (c := .string s') (wanted_none rfl) (by go_simp) rfl
              case o6 => intro aR wR hR; replace hR := hR.undrew; intro (h5 : aR.tmps[5]? = some (.int .i64 (j : Int))); exact exec_val (c := .int .i64 (j : Int)) (wanted_none rfl) (by go_simp) rfl
              case o7 => intro aR wR hR; replace hR := hR.undrew; intro v45 h45 e45; replace e45 : v45 = .string s' := e45; subst e45; intro v46 h46 e46; replace e46 : v46 = .int .i64 (j : Int) := e46; subst e46; (have h1 := hlt.2; have h2 : (j : Int) < (s'.size : Int) := (by omega); have h3 := HY.out.symm); exact exec_val (c := .int .u8 y) (wanted_none rfl) (by go_simp) rfl
              case o8 => intro aR wR hR; replace hR := hR.undrew; intro v43 h43 e43; replace e43 : v43 = .int .u8 x := e43; subst e43; intro v47 h47 e47; replace e47 : v47 = .int .u8 y := e47; subst e47; exact exec_val (c := .bool true) (wanted_none rfl) (by go_simp) rfl
            · intro vs wR hR hV
              obtain ⟨e0, e1, e2, e3, e4, e5, e6, e7, e8, -⟩ := hV
              replace e0 : vs 0 = .pointer (some ⟨w.heap.size, 2, none⟩) := e0
              replace e1 : vs 1 = .string s := e1
              replace e2 : vs 2 = .int .i64 (j : Int) := e2
              replace e3 : vs 3 = .int .u8 x := e3
              replace e4 : vs 4 = .pointer (some ⟨w.heap.size + 1, 2, none⟩) := e4
              replace e5 : vs 5 = .string s' := e5
              replace e6 : vs 6 = .int .i64 (j : Int) := e6
              replace e7 : vs 7 = .int .u8 y := e7
              replace e8 : vs 8 = .bool true := e8
              simp only [putAll, e0, e1, e2, e3, e4, e5, e6, e7, e8, Nat.reduceAdd, Nat.zero_add]
              clear e0 e1 e2 e3 e4 e5 e6 e7 e8
              try simp only [List.setIfInBounds_toArray, List.set_cons_succ, List.set_cons_zero]

              have hR0 := hR
              go_wp2_with fail
              refine wp_region_K (by kernel_rfl) [.val (.pointer (some ⟨w.heap.size, 2, none⟩)), .val (.string s), .val (.int .i64 (j : Int)), .val (.int .u8 x), .val (.pointer (some ⟨w.heap.size + 1, 2, none⟩)), .val (.string s'), .val (.int .i64 (j : Int)), .val (.int .u8 y), .val (.bool (decide (x < y))), .val (.bool (decide (x < y)))] [[(2, none)], [(49, some 0)], [(5, none)], [(50, some 1), (51, some 2)], [(3, none)], [(53, some 4)], [(5, none)], [(54, some 5), (55, some 6)], [(52, some 3), (56, some 7)], [(57, some 8)]] rfl (by kernel_rfl) ?_ ?_
              · refine ⟨?o0, ?o1, ?o2, ?o3, ?o4, ?o5, ?o6, ?o7, ?o8, ?o9, trivial⟩
                case o0 => intro aR wR hR; replace hR := hR.undrew; intro (h2 : aR.tmps[2]? = some (.pointer (some ⟨w.heap.size, 0, none⟩))); exact exec_val (c := .pointer (some ⟨w.heap.size, 2, none⟩)) (wanted_none rfl) (by go_simp) rfl
                case o1 => intro aR wR hR; replace hR := hR.undrew; intro v49 h49 e49; replace e49 : v49 = .pointer (some ⟨w.heap.size, 2, none⟩) := e49; subst e49; (have hc := (hR.cell ((HK.out.tr hR0).cell HA2.out (by simp)) (by simp))); exact exec_val (c := .string s) (wanted_none rfl) (by go_simp) rfl
                case o2 => intro aR wR hR; replace hR := hR.undrew; intro (h5 : aR.tmps[5]? = some (.int .i64 (j : Int))); exact exec_val (c := .int .i64 (j : Int)) (wanted_none rfl) (by go_simp) rfl
                case o3 => intro aR wR hR; replace hR := hR.undrew; intro v50 h50 e50; replace e50 : v50 = .string s := e50; subst e50; intro v51 h51 e51; replace e51 : v51 = .int .i64 (j : Int) := e51; subst e51; (have h1 := hlt.1; have h2 : (j : Int) < (s.size : Int) := (by omega); have h3 := HX.out.symm); exact exec_val (c := .int .u8 x) (wanted_none rfl) (by go_simp) rfl
                case o4 => intro aR wR hR; replace hR := hR.undrew; intro (h3 : aR.tmps[3]? = some (.pointer (some ⟨w.heap.size + 1, 0, none⟩))); exact exec_val (c := .pointer (some ⟨w.heap.size + 1, 2, none⟩)) (wanted_none rfl) (by go_simp) rfl
                case o5 => intro aR wR hR; replace hR := hR.undrew; intro v53 h53 e53; replace e53 : v53 = .pointer (some ⟨w.heap.size + 1, 2, none⟩) := e53; subst e53; (have hc := (hR.cell ((HK.out.tr hR0).cell HB2.out (by simp)) (by simp))); exact exec_val (c := .string s') (wanted_none rfl) (by go_simp) rfl
                case o6 => intro aR wR hR; replace hR := hR.undrew; intro (h5 : aR.tmps[5]? = some (.int .i64 (j : Int))); exact exec_val (c := .int .i64 (j : Int)) (wanted_none rfl) (by go_simp) rfl
                case o7 => intro aR wR hR; replace hR := hR.undrew; intro v54 h54 e54; replace e54 : v54 = .string s' := e54; subst e54; intro v55 h55 e55; replace e55 : v55 = .int .i64 (j : Int) := e55; subst e55; (have h1 := hlt.2; have h2 : (j : Int) < (s'.size : Int) := (by omega); have h3 := HY.out.symm); exact exec_val (c := .int .u8 y) (wanted_none rfl) (by go_simp) rfl
                case o8 => intro aR wR hR; replace hR := hR.undrew; intro v52 h52 e52; replace e52 : v52 = .int .u8 x := e52; subst e52; intro v56 h56 e56; replace e56 : v56 = .int .u8 y := e56; subst e56; exact exec_val (c := .bool (decide (x < y))) (wanted_none rfl) (by go_simp) rfl
                case o9 => intro aR wR hR; replace hR := hR.undrew; intro v57 h57 e57; replace e57 : v57 = .bool (decide (x < y)) := e57; subst e57; exact exec_val (c := .bool (decide (x < y))) (wanted_none rfl) (by go_simp) rfl
              · intro vs wR hR hV
                obtain ⟨e0, e1, e2, e3, e4, e5, e6, e7, e8, e9, -⟩ := hV
                replace e0 : vs 0 = .pointer (some ⟨w.heap.size, 2, none⟩) := e0
                replace e1 : vs 1 = .string s := e1
                replace e2 : vs 2 = .int .i64 (j : Int) := e2
                replace e3 : vs 3 = .int .u8 x := e3
                replace e4 : vs 4 = .pointer (some ⟨w.heap.size + 1, 2, none⟩) := e4
                replace e5 : vs 5 = .string s' := e5
                replace e6 : vs 6 = .int .i64 (j : Int) := e6
                replace e7 : vs 7 = .int .u8 y := e7
                replace e8 : vs 8 = .bool (decide (x < y)) := e8
                replace e9 : vs 9 = .bool (decide (x < y)) := e9
                simp only [putAll, e0, e1, e2, e3, e4, e5, e6, e7, e8, e9, Nat.reduceAdd, Nat.zero_add]
                clear e0 e1 e2 e3 e4 e5 e6 e7 e8 e9
                try simp only [List.setIfInBounds_toArray, List.set_cons_succ, List.set_cons_zero]
                go_wp2_with fail
                go_ret
                refine ⟨?_, hk1.tr ((HK.out.tr hR0).tr hR)⟩
                rw [lessV, if_pos rfl, if_pos rfl, HO.out, HD.out, if_neg hxy]; rfl
        · go_wp2_with fail
          all_goals first | (exfalso; omega) | go_ret
          all_goals (refine ⟨?_, hk1.tr HK.out⟩; rw [lessV, if_pos rfl, if_pos rfl, HO.out, bl_end s s' j (by omega) hj hj']; first | rfl | (simp; omega))
    · go_enter Try.func36, Try.ntmps36
      have hn1 : (n != n') = true := by simpa using hn
      go_wp2
      go_ret
      simp only [lessV, if_true, if_neg hn]; exact ⟨rfl, ((Kp.refl [] w).alloc _).alloc _⟩
  · go_enter Try.func36, Try.ntmps36
    have hk1 : (k != k') = true := by simpa using hk
    go_wp2
    go_ret
    simp only [lessV, if_neg hk]; exact ⟨rfl, ((Kp.refl [] w).alloc _).alloc _⟩

theorem cells3 {w : World} {q : Nat} {a b c : Value} {t : TypeId} (h : w.heap[q]? = some (.cells #[a, b, c] t)) : w.cell? ⟨q, 0, none⟩ = some a ∧ w.cell? ⟨q, 1, none⟩ = some b ∧ w.cell? ⟨q, 2, none⟩ = some c :=
  ⟨cell_of_row w q 0 _ _ _ h, cell_of_row w q 1 _ _ _ h, cell_of_row w q 2 _ _ _ h⟩
end Go.Proofs.Ytfacpfogdcefpaa
