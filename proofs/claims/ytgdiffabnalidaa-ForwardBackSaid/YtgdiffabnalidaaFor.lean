/-
  Forward: an index, what it tells.
-/
import Derived.Test.YtgdiffabnalidaaLaw02C
import Derived.Test.YtgdiffabnalidaaUintR
import Derived.Deep.DeepCutAuto
namespace Go.Proofs.Ytgdiffabnalidaa
open Go.RowKit
set_option linter.unusedSimpArgs false
set_option linter.unusedVariables false

/-- An index at block p. -/
def IsIdx (w : World) (p n m wd : Nat) (ad : Option Addr) (cap : Nat) (bs : List Int) : Prop :=
  w.heap[p]? = some (.cells #[.int .i64 n, .int .i64 m, .int .i64 wd, .slice ad bs.length cap] 63) ∧ Rd w .u8 ad cap bs
theorem IsIdx.keep0 {w w' : World} {p n m wd : Nat} {ad : Option Addr} {cap : Nat} {bs : List Int} (h : IsIdx w p n m wd ad cap bs) (k : Kp [] w w') : IsIdx w' p n m wd ad cap bs := ⟨k.get h.1 (by simp), h.2.keep0 k⟩
theorem idx_cells {w : World} {p n m wd : Nat} {ad : Option Addr} {cap : Nat} {bs : List Int} (h : IsIdx w p n m wd ad cap bs) :
    w.cell? ⟨p, 0, none⟩ = some (.int .i64 n) ∧ w.cell? ⟨p, 1, none⟩ = some (.int .i64 m) ∧ w.cell? ⟨p, 2, none⟩ = some (.int .i64 wd) ∧ w.cell? ⟨p, 3, none⟩ = some (.slice ad bs.length cap) :=
  ⟨cell_of_row w p 0 _ _ _ h.1, cell_of_row w p 1 _ _ _ h.1, cell_of_row w p 2 _ _ _ h.1, cell_of_row w p 3 _ _ _ h.1⟩
/-- The i-th id. -/
def idG (bs : List Int) (wd i : Nat) : Nat := gets (leN bs) i wd
theorem idG_lt (bs : List Int) (wd i : Nat) (h : wd ≤ 24) : idG bs wd i < 16777216 := by
  have h1 : idG bs wd i < 2 ^ wd := Nat.mod_lt _ (Nat.pow_pos (by omega))
  have h2 : 2 ^ wd ≤ 2 ^ 24 := Nat.pow_le_pow_right (by omega) h
  omega

section
variable {p n m wd : Nat} {ad : Option Addr} {cap : Nat} {bs : List Int} {w : World}
theorem fnone_any (h : IsIdx w p n m wd ad cap bs) (hw : 1 ≤ wd) : Calls Try.prog 42 #[.pointer (some ⟨p, 0, none⟩)] w fun e w' => e = .returned (.bool false) ∧ w' = w := by
  obtain ⟨c0, c1, c2, c3⟩ := idx_cells h
  have h1 : ((wd : Int) == 0) = false := by simp; omega
  clear h
  go_enter Try.func42, Try.ntmps42
  go_wp2_with fail
  go_ret
  exact ⟨rfl, rfl⟩
theorem fLen_any (h : IsIdx w p n m wd ad cap bs) (hw : 1 ≤ wd) : Calls Try.prog 46 #[.pointer (some ⟨p, 0, none⟩)] w fun e w' => e = .returned (.int .i64 n) ∧ w' = w := by
  have H := Lib.hid h
  obtain ⟨c0, c1, c2, c3⟩ := idx_cells h
  clear h
  go_enter Try.func46, Try.ntmps46
  go_wp2_with fail
  refine (fnone_any H.out hw).mono ?_
  rintro e w7 ⟨rfl, h7⟩
  subst w7
  go_wp2_with fail
  go_ret
  exact ⟨rfl, rfl⟩
theorem fWidth_any (h : IsIdx w p n m wd ad cap bs) (hw : 1 ≤ wd) : Calls Try.prog 26 #[.pointer (some ⟨p, 0, none⟩)] w fun e w' => e = .returned (.int .i64 wd) ∧ w' = w := by
  have H := Lib.hid h
  obtain ⟨c0, c1, c2, c3⟩ := idx_cells h
  clear h
  go_enter Try.func26, Try.ntmps26
  go_wp2_with fail
  refine (fnone_any H.out hw).mono ?_
  rintro e w7 ⟨rfl, h7⟩
  subst w7
  go_wp2_with fail
  go_ret
  exact ⟨rfl, rfl⟩
theorem fMany_any (h : IsIdx w p n m wd ad cap bs) (hw : 1 ≤ wd) : Calls Try.prog 47 #[.pointer (some ⟨p, 0, none⟩)] w fun e w' => e = .returned (.int .i64 m) ∧ w' = w := by
  have H := Lib.hid h
  obtain ⟨c0, c1, c2, c3⟩ := idx_cells h
  clear h
  go_enter Try.func47, Try.ntmps47
  go_wp2_with fail
  refine (fnone_any H.out hw).mono ?_
  rintro e w7 ⟨rfl, h7⟩
  subst w7
  go_wp2_with fail
  go_ret
  exact ⟨rfl, rfl⟩
theorem fGet_in (h : IsIdx w p n m wd ad cap bs) (hb : Bytes8 bs) (hw : 1 ≤ wd) (hw2 : wd ≤ 24) (i : Nat) (hi : i < n) (hn : n ≤ 16777216) :
    Calls Try.prog 39 #[.pointer (some ⟨p, 0, none⟩), .int .i64 (i : Int)] w fun e w' => e = .returned (.tuple #[.int .i64 (idG bs wd i : Int), .int .i64 0]) ∧ Kp [] w w' := by
  have H := Lib.hid h
  have HB := Lib.hid hb
  obtain ⟨c0, c1, c2, c3⟩ := idx_cells h
  obtain ⟨l, hl⟩ : ∃ l, l = bs.length := ⟨_, rfl⟩
  rw [← hl] at c3
  have HL := Lib.hid hl
  obtain ⟨v, hv⟩ : ∃ v, v = idG bs wd i := ⟨_, rfl⟩
  have hvl := idG_lt bs wd i hw2
  rw [← hv] at hvl ⊢
  have HV := Lib.hid hv
  have HC2 := Lib.hid c2
  have HC3 := Lib.hid c3
  have h1 : ¬ (i : Int) < 0 := by omega
  have h2 : ¬ (n : Int) ≤ (i : Int) := by omega
  clear h hb hl hv
  go_enter Try.func39, Try.ntmps39
  go_wp2_with fail
  refine (fnone_any H.out hw).mono ?_
  rintro e w7 ⟨rfl, h7⟩
  subst w7
  go_upto_region 5 with (fail)
  refine wp_region_K (by kernel_rfl) [.val (.pointer (some ⟨p, 0, none⟩)), .val (.pointer (some ⟨p, 0, none⟩)), .val (.pointer (some ⟨p, 3, none⟩)), .val (.slice ad l cap), .val (.int .i64 (i : Int)), .val (.pointer (some ⟨p, 0, none⟩)), .val (.pointer (some ⟨p, 0, none⟩)), .val (.pointer (some ⟨p, 2, none⟩)), .val (.int .i64 (wd : Int)), .val (.int .u64 (v : Int)), .val (.int .i64 (v : Int)), .val (.int .i64 (v : Int)), .val ((.int .i64 0))] [[(0, none)], [(20, some 0)], [(21, some 1)], [(22, some 2)], [(1, none)], [(0, none)], [(25, some 5)], [(26, some 6)], [(27, some 7)], [(23, some 3), (24, some 4), (28, some 8)], [(29, some 9)], [(30, some 10)], []] rfl (by kernel_rfl) ?_ ?_
  · refine ⟨?o0, ?o1, ?o2, ?o3, ?o4, ?o5, ?o6, ?o7, ?o8, ?o9, ?o10, ?o11, ?o12, trivial⟩
    case o0 => intro aR wR hR; replace hR := hR.undrew; intro (h0 : aR.tmps[0]? = some (.pointer (some ⟨p, 0, none⟩))); exact exec_val (c := .pointer (some ⟨p, 0, none⟩)) (wanted_none rfl) (by go_simp) rfl
    case o1 => intro aR wR hR; replace hR := hR.undrew; intro v20 h20 e20; replace e20 : v20 = .pointer (some ⟨p, 0, none⟩) := e20; subst e20; exact exec_val (c := .pointer (some ⟨p, 0, none⟩)) (wanted_none rfl) (by go_simp) rfl
    case o2 => intro aR wR hR; replace hR := hR.undrew; intro v21 h21 e21; replace e21 : v21 = .pointer (some ⟨p, 0, none⟩) := e21; subst e21; exact exec_val (c := .pointer (some ⟨p, 3, none⟩)) (wanted_none rfl) (by go_simp) rfl
    case o3 => intro aR wR hR; replace hR := hR.undrew; intro v22 h22 e22; replace e22 : v22 = .pointer (some ⟨p, 3, none⟩) := e22; subst e22; (have hc := hR.cell HC3.out (by simp)); exact exec_val (c := .slice ad l cap) (wanted_none rfl) (by go_simp) rfl
    case o4 => intro aR wR hR; replace hR := hR.undrew; intro (h1 : aR.tmps[1]? = some (.int .i64 (i : Int))); exact exec_val (c := .int .i64 (i : Int)) (wanted_none rfl) (by go_simp) rfl
    case o5 => intro aR wR hR; replace hR := hR.undrew; intro (h0 : aR.tmps[0]? = some (.pointer (some ⟨p, 0, none⟩))); exact exec_val (c := .pointer (some ⟨p, 0, none⟩)) (wanted_none rfl) (by go_simp) rfl
    case o6 => intro aR wR hR; replace hR := hR.undrew; intro v25 h25 e25; replace e25 : v25 = .pointer (some ⟨p, 0, none⟩) := e25; subst e25; exact exec_val (c := .pointer (some ⟨p, 0, none⟩)) (wanted_none rfl) (by go_simp) rfl
    case o7 => intro aR wR hR; replace hR := hR.undrew; intro v26 h26 e26; replace e26 : v26 = .pointer (some ⟨p, 0, none⟩) := e26; subst e26; exact exec_val (c := .pointer (some ⟨p, 2, none⟩)) (wanted_none rfl) (by go_simp) rfl
    case o8 => intro aR wR hR; replace hR := hR.undrew; intro v27 h27 e27; replace e27 : v27 = .pointer (some ⟨p, 2, none⟩) := e27; subst e27; (have hc := hR.cell HC2.out (by simp)); exact exec_val (c := .int .i64 (wd : Int)) (wanted_none rfl) (by go_simp) rfl
    case o9 => intro aR wR hR; replace hR := hR.undrew; intro v23 h23 e23; replace e23 : v23 = .slice ad l cap := e23; subst e23; intro v24 h24 e24; replace e24 : v24 = .int .i64 (i : Int) := e24; subst e24; intro v28 h28 e28; replace e28 : v28 = .int .i64 (wd : Int) := e28; subst e28; refine exec_call (wanted_none rfl) (by go_simp; exact ⟨rfl, rfl⟩) ?_; refine (pget_any ad cap l bs HL.out i wd _ (H.out.2.keep0 hR) HB.out ⟨by omega, by omega, by omega, by omega⟩).mono ?_; rintro e7 w8 ⟨rfl, h8⟩; subst w8; exact ⟨_, rfl, by rw [HV.out]; rfl, Kp.refl _ _⟩
    case o10 => intro aR wR hR; replace hR := hR.undrew; intro v29 h29 e29; replace e29 : v29 = .int .u64 (v : Int) := e29; subst e29; (have ex := IntWalk.i64_in (v : Int) (by omega)); exact exec_val (c := .int .i64 (v : Int)) (wanted_none rfl) (by go_simp) rfl
    case o11 => intro aR wR hR; replace hR := hR.undrew; intro v30 h30 e30; replace e30 : v30 = .int .i64 (v : Int) := e30; subst e30; exact exec_val (c := .int .i64 (v : Int)) (wanted_none rfl) (by go_simp) rfl
    case o12 => intro aR wR hR; replace hR := hR.undrew; skip; exact exec_val (c := (.int .i64 0)) (wanted_none rfl) (by go_simp) rfl
  · intro vs wR hR hV
    obtain ⟨e0, e1, e2, e3, e4, e5, e6, e7, e8, e9, e10, e11, e12, -⟩ := hV
    replace e0 : vs 0 = .pointer (some ⟨p, 0, none⟩) := e0
    replace e1 : vs 1 = .pointer (some ⟨p, 0, none⟩) := e1
    replace e2 : vs 2 = .pointer (some ⟨p, 3, none⟩) := e2
    replace e3 : vs 3 = .slice ad l cap := e3
    replace e4 : vs 4 = .int .i64 (i : Int) := e4
    replace e5 : vs 5 = .pointer (some ⟨p, 0, none⟩) := e5
    replace e6 : vs 6 = .pointer (some ⟨p, 0, none⟩) := e6
    replace e7 : vs 7 = .pointer (some ⟨p, 2, none⟩) := e7
    replace e8 : vs 8 = .int .i64 (wd : Int) := e8
    replace e9 : vs 9 = .int .u64 (v : Int) := e9
    replace e10 : vs 10 = .int .i64 (v : Int) := e10
    replace e11 : vs 11 = .int .i64 (v : Int) := e11
    replace e12 : vs 12 = (.int .i64 0) := e12
    simp only [putAll, e0, e1, e2, e3, e4, e5, e6, e7, e8, e9, e10, e11, e12, Nat.reduceAdd, Nat.zero_add]
    clear e0 e1 e2 e3 e4 e5 e6 e7 e8 e9 e10 e11 e12
    try simp only [List.setIfInBounds_toArray, List.set_cons_succ, List.set_cons_zero]
    go_wp2_with fail
    go_ret2
    exact ⟨rfl, hR⟩
theorem fAll_any (w : World) (p : Nat) : Calls Try.prog 31 #[.pointer (some ⟨p, 0, none⟩)] w fun e w' => e = .returned (.func (.func 45) #[] #[.pointer (some ⟨w.heap.size, 0, none⟩)]) ∧ w' = w.alloc (.cells #[.pointer (some ⟨p, 0, none⟩)] 40) := by
  go_enter Try.func31, Try.ntmps31
  go_wp2_with fail
  go_ret
  exact ⟨rfl, rfl⟩
end
end Go.Proofs.Ytgdiffabnalidaa
