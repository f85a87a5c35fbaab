/-
  Values: Compare.
-/
import Derived.Test.YtfacpfogdcefpaaRegionG
import Derived.Test.YtfacpfogdcefpaaVal
namespace Go.Proofs.Ytfacpfogdcefpaa
open Go.RowKit
set_option linter.unusedSimpArgs false
set_option linter.unusedVariables false
set_option maxRecDepth 100000

/-- The first that is not 0. -/
def orL : List Int → Int
  | [] => 0
  | x :: l => if x = 0 then orL l else x
theorem orL_drop (l : List Int) (k : Nat) (hk : k < l.length) : orL (l.drop k) = if nth l k = 0 then orL (l.drop (k + 1)) else nth l k := by
  rw [List.drop_eq_getElem_cons hk, orL]; simp [nth, hk]

theorem cmpOr_any (ad : Option Addr) (cap : Nat) (l : List Int) (n : Nat) (hn : n = l.length) (hb : 0 < n) (w : World) (h : Rd w .i64 ad cap l) :
    Calls Try.prog 44 #[.slice ad n cap] w fun e w' => e = .returned (.int .i64 (orL l)) ∧ w' = w := by
  obtain ⟨b, off, rfl, -⟩ := h.2.2 0 (by omega)
  have hall : ∀ i, i < n → w.cell? ⟨b, off + i, none⟩ = some (.int .i64 (nth l i)) := fun i hi => by
    obtain ⟨b', off', h1, h2⟩ := h.2.2 i (by omega)
    cases h1; exact h2
  have hcap := h.1
  have hcap2 := h.2.1
  have HN := Lib.hid hn
  have HALL := Lib.hid hall
  have hnc : n ≤ cap := by omega
  clear h hall hn hcap
  go_enter Try.func44, Try.ntmps44
  go_wp2
  go_loopw [8] (fun i wr => ∃ k : Nat, k ≤ n ∧ i = .int .i64 k ∧ wr = w ∧ Hid (orL l = orL (l.drop k))) (fun i _ => n - (intOf i).toNat)
  case atStart => exact ⟨0, Nat.zero_le _, rfl, rfl, Lib.hid rfl⟩
  case round =>
    obtain ⟨k, hk, rfl, rfl, HO⟩ := hrel
    by_cases hlt : k < n
    · have hx := HALL.out k hlt
      have hd := orL_drop l k (by have := HN.out; omega)
      obtain ⟨r, hr⟩ : ∃ r, r = nth l k := ⟨_, rfl⟩
      rw [← hr] at hx hd
      by_cases h0 : r = 0
      · subst h0
        have HD := Lib.hid hd
        clear hd hr
        go_wp2_with fail
        go_roundw
        case rel => exact ⟨k + 1, hlt, by go_num, by first | trivial | rfl, Lib.hid (by rw [HO.out, HD.out]; simp)⟩
        case measure => simp [intOf]; omega
      · have h1 : (r != 0) = true := by simpa using h0
        have HD := Lib.hid hd
        clear hd hr
        go_wp2_with fail
        go_ret
        rw [HO.out, HD.out, if_neg h0]; exact ⟨rfl, rfl⟩
    · obtain rfl : k = n := by omega
      go_wp2_with fail
      go_ret
      rw [HO.out, HN.out, List.drop_length]; exact ⟨rfl, rfl⟩

/-- A value. -/
def vv (k n : Int) (s : ByteArray) : Value := .agg #[.int .u8 k, .int .i64 n, .string s]

def cmpV (k n : Int) (s : ByteArray) (k' n' : Int) (s' : ByteArray) : Int := orL [cmpI k k', cmpI n n', cmpS s s']
theorem vCompare_any (k n : Int) (s : ByteArray) (k' n' : Int) (s' : ByteArray) (w : World) :
    Calls Try.prog 18 #[.agg #[.int .u8 k, .int .i64 n, .string s], .agg #[.int .u8 k', .int .i64 n', .string s']] w fun e w' => e = .returned (.int .i64 (cmpV k n s k' n' s')) ∧ Kp [] w w' := by
  go_enter Try.func18, Try.ntmps18
  go_wp2
  obtain ⟨w1, hw1⟩ : ∃ w1, w1 = (w.alloc (Obj.cells #[Value.int IntKind.u8 k, Value.int IntKind.i64 n, Value.string s] 38)).alloc (Obj.cells #[Value.int IntKind.u8 k', Value.int IntKind.i64 n', Value.string s'] 38) := ⟨_, rfl⟩
  have hk1 : Kp [] w w1 := by rw [hw1]; exact ((Kp.refl [] w).alloc _).alloc _
  have hA : w1.heap[w.heap.size]? = some (.cells #[Value.int IntKind.u8 k, Value.int IntKind.i64 n, Value.string s] 38) := by rw [hw1]; exact cells_alloc (heap_alloc_at rfl)
  have hB : w1.heap[w.heap.size + 1]? = some (.cells #[Value.int IntKind.u8 k', Value.int IntKind.i64 n', Value.string s'] 38) := by rw [hw1]; exact heap_alloc_at (by simp)
  rw [← hw1]
  have A0 := cell_of_row w1 _ 0 _ _ _ hA
  have A1 := cell_of_row w1 _ 1 _ _ _ hA
  have A2 := cell_of_row w1 _ 2 _ _ _ hA
  have B0 := cell_of_row w1 _ 0 _ _ _ hB
  have B1 := cell_of_row w1 _ 1 _ _ _ hB
  have B2 := cell_of_row w1 _ 2 _ _ _ hB
  simp at A0 A1 A2 B0 B1 B2
  have HA0 := Lib.hid A0
  have HA1 := Lib.hid A1
  have HA2 := Lib.hid A2
  have HB0 := Lib.hid B0
  have HB1 := Lib.hid B1
  have HB2 := Lib.hid B2
  clear A0 A1 A2 B0 B1 B2 hA hB hw1
  obtain ⟨x, hx⟩ : ∃ x, x = cmpI k k' := ⟨_, rfl⟩
  obtain ⟨y, hy⟩ : ∃ y, y = cmpI n n' := ⟨_, rfl⟩
  obtain ⟨z, hz⟩ : ∃ z, z = cmpS s s' := ⟨_, rfl⟩
  refine wp_region_K (by kernel_rfl) [.val (.pointer (some ⟨w.heap.size, 0, none⟩)), .val (.int .u8 k), .val (.pointer (some ⟨w.heap.size + 1, 0, none⟩)), .val (.int .u8 k'), .val (.int .i64 x), .val (.pointer (some ⟨w.heap.size, 1, none⟩)), .val (.int .i64 n), .val (.pointer (some ⟨w.heap.size + 1, 1, none⟩)), .val (.int .i64 n'), .val (.int .i64 y), .val (.pointer (some ⟨w.heap.size, 2, none⟩)), .val (.string s), .val (.pointer (some ⟨w.heap.size + 1, 2, none⟩)), .val (.string s'), .val (.int .i64 z), .own w1.heap.size 3 .i64 3 [x, y, z], .val (.int .i64 (orL [x, y, z])), .val (.int .i64 (orL [x, y, z]))] [[(2, none)], [(5, some 0)], [(3, none)], [(7, some 2)], [(6, some 1), (8, some 3)], [(2, none)], [(10, some 5)], [(3, none)], [(12, some 7)], [(11, some 6), (13, some 8)], [(2, none)], [(15, some 10)], [(3, none)], [(17, some 12)], [(16, some 11), (18, some 13)], [(9, some 4), (14, some 9), (19, some 14)], [(20, some 15)], [(21, some 16)]] rfl (by kernel_rfl) ?_ ?_
  · refine ⟨?o0, ?o1, ?o2, ?o3, ?o4, ?o5, ?o6, ?o7, ?o8, ?o9, ?o10, ?o11, ?o12, ?o13, ?o14, ?o15, ?o16, ?o17, trivial⟩
    case o0 => intro aR wR hR; replace hR := hR.undrew; intro (h2 : aR.tmps[2]? = some (.pointer (some ⟨w.heap.size, 0, none⟩))); exact exec_val (c := .pointer (some ⟨w.heap.size, 0, none⟩)) (wanted_none rfl) (by go_simp) rfl
    case o1 => intro aR wR hR; replace hR := hR.undrew; intro v5 h5 e5; replace e5 : v5 = .pointer (some ⟨w.heap.size, 0, none⟩) := e5; subst e5; (have hc := hR.cell HA0.out (by simp)); exact exec_val (c := .int .u8 k) (wanted_none rfl) (by go_simp) rfl
    case o2 => intro aR wR hR; replace hR := hR.undrew; intro (h3 : aR.tmps[3]? = some (.pointer (some ⟨w.heap.size + 1, 0, none⟩))); exact exec_val (c := .pointer (some ⟨w.heap.size + 1, 0, none⟩)) (wanted_none rfl) (by go_simp) rfl
    case o3 => intro aR wR hR; replace hR := hR.undrew; intro v7 h7 e7; replace e7 : v7 = .pointer (some ⟨w.heap.size + 1, 0, none⟩) := e7; subst e7; (have hc := hR.cell HB0.out (by simp)); exact exec_val (c := .int .u8 k') (wanted_none rfl) (by go_simp) rfl
    case o4 => intro aR wR hR; replace hR := hR.undrew; intro v6 h6 e6; replace e6 : v6 = .int .u8 k := e6; subst e6; intro v8 h8 e8; replace e8 : v8 = .int .u8 k' := e8; subst e8; refine exec_call (wanted_none rfl) (by go_simp; exact ⟨rfl, rfl⟩) ?_; refine (cmpU8_any _ _ _).mono ?_; rintro e w7 ⟨rfl, rfl⟩; exact ⟨_, rfl, by rw [hx]; rfl, Kp.refl _ _⟩
    case o5 => intro aR wR hR; replace hR := hR.undrew; intro (h2 : aR.tmps[2]? = some (.pointer (some ⟨w.heap.size, 0, none⟩))); exact exec_val (c := .pointer (some ⟨w.heap.size, 1, none⟩)) (wanted_none rfl) (by go_simp) rfl
    case o6 => intro aR wR hR; replace hR := hR.undrew; intro v10 h10 e10; replace e10 : v10 = .pointer (some ⟨w.heap.size, 1, none⟩) := e10; subst e10; (have hc := hR.cell HA1.out (by simp)); exact exec_val (c := .int .i64 n) (wanted_none rfl) (by go_simp) rfl
    case o7 => intro aR wR hR; replace hR := hR.undrew; intro (h3 : aR.tmps[3]? = some (.pointer (some ⟨w.heap.size + 1, 0, none⟩))); exact exec_val (c := .pointer (some ⟨w.heap.size + 1, 1, none⟩)) (wanted_none rfl) (by go_simp) rfl
    case o8 => intro aR wR hR; replace hR := hR.undrew; intro v12 h12 e12; replace e12 : v12 = .pointer (some ⟨w.heap.size + 1, 1, none⟩) := e12; subst e12; (have hc := hR.cell HB1.out (by simp)); exact exec_val (c := .int .i64 n') (wanted_none rfl) (by go_simp) rfl
    case o9 => intro aR wR hR; replace hR := hR.undrew; intro v11 h11 e11; replace e11 : v11 = .int .i64 n := e11; subst e11; intro v13 h13 e13; replace e13 : v13 = .int .i64 n' := e13; subst e13; refine exec_call (wanted_none rfl) (by go_simp; exact ⟨rfl, rfl⟩) ?_; refine (cmpI64_any _ _ _).mono ?_; rintro e w7 ⟨rfl, rfl⟩; exact ⟨_, rfl, by rw [hy]; rfl, Kp.refl _ _⟩
    case o10 => intro aR wR hR; replace hR := hR.undrew; intro (h2 : aR.tmps[2]? = some (.pointer (some ⟨w.heap.size, 0, none⟩))); exact exec_val (c := .pointer (some ⟨w.heap.size, 2, none⟩)) (wanted_none rfl) (by go_simp) rfl
    case o11 => intro aR wR hR; replace hR := hR.undrew; intro v15 h15 e15; replace e15 : v15 = .pointer (some ⟨w.heap.size, 2, none⟩) := e15; subst e15; (have hc := hR.cell HA2.out (by simp)); exact exec_val (c := .string s) (wanted_none rfl) (by go_simp) rfl
    case o12 => intro aR wR hR; replace hR := hR.undrew; intro (h3 : aR.tmps[3]? = some (.pointer (some ⟨w.heap.size + 1, 0, none⟩))); exact exec_val (c := .pointer (some ⟨w.heap.size + 1, 2, none⟩)) (wanted_none rfl) (by go_simp) rfl
    case o13 => intro aR wR hR; replace hR := hR.undrew; intro v17 h17 e17; replace e17 : v17 = .pointer (some ⟨w.heap.size + 1, 2, none⟩) := e17; subst e17; (have hc := hR.cell HB2.out (by simp)); exact exec_val (c := .string s') (wanted_none rfl) (by go_simp) rfl
    case o14 => intro aR wR hR; replace hR := hR.undrew; intro v16 h16 e16; replace e16 : v16 = .string s := e16; subst e16; intro v18 h18 e18; replace e18 : v18 = .string s' := e18; subst e18; refine exec_call (wanted_none rfl) (by go_simp; exact ⟨rfl, rfl⟩) ?_; refine (cmpStr_any _ _ _).mono ?_; rintro e w7 ⟨rfl, rfl⟩; exact ⟨_, rfl, by rw [hz]; rfl, Kp.refl _ _⟩
    case o15 => intro aR wR hR; replace hR := hR.undrew; intro v9 h9 e9; replace e9 : v9 = .int .i64 x := e9; subst e9; intro v14 h14 e14; replace e14 : v14 = .int .i64 y := e14; subst e14; intro v19 h19 e19; replace e19 : v19 = .int .i64 z := e19; subst e19; exact exec_do (c := .slice (some ⟨wR.heap.size, 0, none⟩) 3 3) (w' := wR.alloc (.cells #[.int .i64 x, .int .i64 y, .int .i64 z] 3)) (wanted_none rfl) (by go_simp) ⟨_, _, rfl, Own.row (zs := [x, y, z]) hR.size (show _ = some (Obj.cells (ints .i64 [x, y, z]) 3) from heap_alloc_at rfl) (by simp only [List.length_cons, List.length_nil]; omega)⟩ ((Kp.refl [] _).alloc _)
    case o16 => intro aR wR hR; replace hR := hR.undrew; intro v20 h20 e20; refine exec_call (wanted_none rfl) (by go_simp; exact ⟨rfl, rfl⟩) ?_; obtain ⟨ad, cap, rfl, ho⟩ := e20; refine (cmpOr_any ad cap [x, y, z] 3 rfl (by omega) _ ho.rd).mono ?_; rintro e w7 ⟨rfl, rfl⟩; exact ⟨_, rfl, rfl, Kp.refl _ _⟩
    case o17 => intro aR wR hR; replace hR := hR.undrew; intro v21 h21 e21; replace e21 : v21 = .int .i64 (orL [x, y, z]) := e21; subst e21; exact exec_val (c := .int .i64 (orL [x, y, z])) (wanted_none rfl) (by go_simp) rfl
  · intro vs wR hR hV
    obtain ⟨e0, e1, e2, e3, e4, e5, e6, e7, e8, e9, e10, e11, e12, e13, e14, e15, e16, e17, -⟩ := hV
    replace e0 : vs 0 = .pointer (some ⟨w.heap.size, 0, none⟩) := e0
    replace e1 : vs 1 = .int .u8 k := e1
    replace e2 : vs 2 = .pointer (some ⟨w.heap.size + 1, 0, none⟩) := e2
    replace e3 : vs 3 = .int .u8 k' := e3
    replace e4 : vs 4 = .int .i64 x := e4
    replace e5 : vs 5 = .pointer (some ⟨w.heap.size, 1, none⟩) := e5
    replace e6 : vs 6 = .int .i64 n := e6
    replace e7 : vs 7 = .pointer (some ⟨w.heap.size + 1, 1, none⟩) := e7
    replace e8 : vs 8 = .int .i64 n' := e8
    replace e9 : vs 9 = .int .i64 y := e9
    replace e10 : vs 10 = .pointer (some ⟨w.heap.size, 2, none⟩) := e10
    replace e11 : vs 11 = .string s := e11
    replace e12 : vs 12 = .pointer (some ⟨w.heap.size + 1, 2, none⟩) := e12
    replace e13 : vs 13 = .string s' := e13
    replace e14 : vs 14 = .int .i64 z := e14
    replace e16 : vs 16 = .int .i64 (orL [x, y, z]) := e16
    replace e17 : vs 17 = .int .i64 (orL [x, y, z]) := e17
    simp only [putAll, e0, e1, e2, e3, e4, e5, e6, e7, e8, e9, e10, e11, e12, e13, e14, e16, e17, Nat.reduceAdd, Nat.zero_add]
    clear e0 e1 e2 e3 e4 e5 e6 e7 e8 e9 e10 e11 e12 e13 e14 e16 e17
    try simp only [List.setIfInBounds_toArray, List.set_cons_succ, List.set_cons_zero]
    go_wp2_with fail
    go_ret
    refine ⟨?_, hk1.tr hR⟩
    rw [cmpV, hx, hy, hz]; rfl
def mayV (k n : Int) (s : ByteArray) : Bool := if k == 1 then s.toList == [] else k == 2 && n == 0 && decide ((s.size : Int) ≤ 65535)
theorem vMay_any (k n : Int) (s : ByteArray) (w : World) :
    Calls Try.prog 38 #[.agg #[.int .u8 k, .int .i64 n, .string s]] w fun e w' => e = .returned (.bool (mayV k n s)) ∧ Kp [] w w' := by
  go_enter Try.func38, Try.ntmps38
  go_wp2
  all_goals go_ret
  all_goals (refine ⟨?_, (Kp.refl [] w).alloc _⟩; simp_all [mayV])
theorem r10May_any (k n : Int) (s : ByteArray) (w : World) :
    Calls Try.prog 23 #[.agg #[.int .u8 k, .int .i64 n, .string s]] w fun e w' => e = .returned (.bool (mayV k n s)) ∧ Kp [] w w' := by
  go_enter Try.func23, Try.ntmps23
  go_wp2
  all_goals go_ret
  all_goals (refine ⟨?_, (Kp.refl [] w).alloc _⟩; simp_all [mayV])
end Go.Proofs.Ytfacpfogdcefpaa
