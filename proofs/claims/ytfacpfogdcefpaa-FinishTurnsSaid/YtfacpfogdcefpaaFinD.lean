/-
  Finishing: which rows pass.
-/
import Derived.Test.YtfacpfogdcefpaaFinC
import Derived.Laws.EntriesVeiled
namespace Go.Proofs.Ytfacpfogdcefpaa
open Go.RowKit Go.Shelf
set_option linter.unusedSimpArgs false
set_option linter.unusedVariables false
set_option maxRecDepth 100000

/-- No test: all pass. -/
theorem passes0_any (out cmp : Int) (v : V3) (a : Option Addr) (n c : Nat) (w : World) :
    Calls Try.prog 68 #[tstV ⟨0, out, cmp, v⟩, .slice a n c] w fun e w' => e = .returned (.bool true) ∧ Kp [] w w' := by
  unfold tstV tstC
  dsimp only
  go_enter Try.func68, Try.ntmps68
  go_wp2_with fail
  go_ret
  exact ⟨rfl, (((Kp.refl [] w).alloc _).alloc _).alloc _⟩
theorem compares4_any (v : Int) (w : World) : Calls Try.prog 84 #[.int .i64 v] w fun e w' => e = .returned (.bool (decide (v < 0))) ∧ Kp [] w w' := by
  go_enter Try.func84, Try.ntmps84
  go_wp2_with fail
  go_ret
  exact ⟨rfl, Kp.refl _ _⟩
/-- One value held against the first of a list. -/
theorem compares1_any (x y : V3) (l : Option Addr) (c Pl Px : Nat) (w : World) (hl : RdV w l c [y]) (hp : w.cell? ⟨Pl, 0, none⟩ = some (.slice l 1 c)) (hx : w.heap[Px]? = some (.cells (vcells x).toArray 38)) :
    Calls Try.prog 81 #[.int .i64 0, .func (.func 84) #[] #[], .pointer (some ⟨Pl, 0, none⟩), .pointer (some ⟨Px, 0, none⟩)] w fun e w' => e = .returned (.bool (decide (cV x y < 0))) ∧ Kp [] w w' := by
  obtain ⟨b, off, rfl, hy⟩ := vals_at hl (s := 0) (by simp)
  simp only [Nat.zero_mul, Nat.add_zero] at hy
  have HY := Lib.hid hy
  have HP := Lib.hid hp
  have X0 : Hid (w.cell? ⟨Px, 0, none⟩ = some (.int .u8 x.k) ∧ w.cell? ⟨Px, 1, none⟩ = some (.int .i64 x.n) ∧ w.cell? ⟨Px, 2, none⟩ = some (.string x.s)) := Lib.hid ⟨by rw [cell_of_row w Px 0 _ _ _ hx]; rfl, by rw [cell_of_row w Px 1 _ _ _ hx]; rfl, by rw [cell_of_row w Px 2 _ _ _ hx]; rfl⟩
  have e0 : atV [y] 0 = y := rfl
  rw [e0] at HY
  have HC : Hid (∀ W, Calls Try.prog 18 #[.agg #[.int .u8 x.k, .int .i64 x.n, .string x.s], .agg #[.int .u8 y.k, .int .i64 y.n, .string y.s]] W fun e w' => e = .returned (.int .i64 (cV x y)) ∧ Kp [] W w') := Lib.hid (fun W => vCompare_any _ _ _ _ _ _ W)
  have heg := enters_of (P := Try.prog) Try.func84 (by kernel_rfl) rfl
  clear hl hp hx hy e0
  generalize cV x y = cv at *
  go_enter Try.func81, Try.ntmps81
  go_upto_region 1 with (fail)
  refine wp_region_K (by kernel_rfl) [.val (.int .i64 0), .val (.slice (some ⟨b, off, none⟩) 1 c), .val (.int .i64 ((1 : Nat) : Int)), .val (.bool true), .val (.bool true), .val (.func (.func 84) #[] #[]), .val (.agg #[.int .u8 x.k, .int .i64 x.n, .string x.s]), .val (.slice (some ⟨b, off, none⟩) 1 c), .val (.int .i64 0), .val (.pointer (some ⟨b, off, none⟩)), .val (.agg #[.int .u8 y.k, .int .i64 y.n, .string y.s]), .val (.int .i64 cv), .val (.bool (decide (cv < 0))), .val (.bool (decide (cv < 0))), .val (.bool (decide (cv < 0)))] [[(0, none)], [(2, none)], [(8, some 1)], [(7, some 0), (9, some 2)], [(10, some 3)], [(11, some 4), (1, none)], [(11, some 4), (3, none)], [(11, some 4), (2, none)], [(11, some 4), (0, none)], [(11, some 4), (14, some 7), (15, some 8)], [(11, some 4), (16, some 9)], [(11, some 4), (13, some 6), (17, some 10)], [(11, some 4), (12, some 5), (18, some 11)], [(11, some 4), (19, some 12)], [(20, some 13)]] rfl (by kernel_rfl) ?_ ?_
  · refine ⟨?o0, ?o1, ?o2, ?o3, ?o4, ?o5, ?o6, ?o7, ?o8, ?o9, ?o10, ?o11, ?o12, ?o13, ?o14, trivial⟩
    case o0 => intro aR wR hR; replace hR := hR.undrew; intro (h0 : aR.tmps[0]? = some (.int .i64 0)); exact exec_val (c := .int .i64 0) (wanted_none rfl) (by go_simp) rfl
    case o1 => intro aR wR hR; replace hR := hR.undrew; intro (h2 : aR.tmps[2]? = some (.pointer (some ⟨Pl, 0, none⟩))); (have h1 := hR.cell HP.out (by simp)); exact exec_val (c := .slice (some ⟨b, off, none⟩) 1 c) (wanted_none rfl) (by go_simp) rfl
    case o2 => intro aR wR hR; replace hR := hR.undrew; intro v8 h8 e8; replace e8 : v8 = .slice (some ⟨b, off, none⟩) 1 c := e8; subst e8; exact exec_val (c := .int .i64 ((1 : Nat) : Int)) (wanted_none rfl) (by go_simp) rfl
    case o3 => intro aR wR hR; replace hR := hR.undrew; intro v7 h7 e7; replace e7 : v7 = .int .i64 0 := e7; subst e7; intro v9 h9 e9; replace e9 : v9 = .int .i64 ((1 : Nat) : Int) := e9; subst e9; exact exec_val (c := .bool true) (wanted_none rfl) (by go_simp) rfl
    case o4 => intro aR wR hR; replace hR := hR.undrew; intro v10 h10 e10; replace e10 : v10 = .bool true := e10; subst e10; exact exec_val (c := .bool true) (wanted_none rfl) (by go_simp) rfl
    case o5 => intro aR wR hR; replace hR := hR.undrew; intro v11 h11 e11; replace e11 : v11 = .bool true := e11; subst e11; intro (h1 : aR.tmps[1]? = some (.func (.func 84) #[] #[])); exact exec_val (c := .func (.func 84) #[] #[]) (wanted_yes (b := true) (t := 11) rfl rfl h11) (by go_simp) rfl
    case o6 => intro aR wR hR; replace hR := hR.undrew; intro v11 h11 e11; replace e11 : v11 = .bool true := e11; subst e11; intro (h3 : aR.tmps[3]? = some (.pointer (some ⟨Px, 0, none⟩))); (have h1 := hR.cell X0.out.1 (by simp); have h2 := hR.cell X0.out.2.1 (by simp); have h3 := hR.cell X0.out.2.2 (by simp)); exact exec_val (c := .agg #[.int .u8 x.k, .int .i64 x.n, .string x.s]) (wanted_yes (b := true) (t := 11) rfl rfl h11) (by go_simp) rfl
    case o7 => intro aR wR hR; replace hR := hR.undrew; intro v11 h11 e11; replace e11 : v11 = .bool true := e11; subst e11; intro (h2 : aR.tmps[2]? = some (.pointer (some ⟨Pl, 0, none⟩))); (have h1 := hR.cell HP.out (by simp)); exact exec_val (c := .slice (some ⟨b, off, none⟩) 1 c) (wanted_yes (b := true) (t := 11) rfl rfl h11) (by go_simp) rfl
    case o8 => intro aR wR hR; replace hR := hR.undrew; intro v11 h11 e11; replace e11 : v11 = .bool true := e11; subst e11; intro (h0 : aR.tmps[0]? = some (.int .i64 0)); exact exec_val (c := .int .i64 0) (wanted_yes (b := true) (t := 11) rfl rfl h11) (by go_simp) rfl
    case o9 => intro aR wR hR; replace hR := hR.undrew; intro v11 h11 e11; replace e11 : v11 = .bool true := e11; subst e11; intro v14 h14 e14; replace e14 : v14 = .slice (some ⟨b, off, none⟩) 1 c := e14; subst e14; intro v15 h15 e15; replace e15 : v15 = .int .i64 0 := e15; subst e15; exact exec_val (c := .pointer (some ⟨b, off, none⟩)) (wanted_yes (b := true) (t := 11) rfl rfl h11) (by go_simp) rfl
    case o10 => intro aR wR hR; replace hR := hR.undrew; intro v11 h11 e11; replace e11 : v11 = .bool true := e11; subst e11; intro v16 h16 e16; replace e16 : v16 = .pointer (some ⟨b, off, none⟩) := e16; subst e16; (obtain ⟨h1, h2, h3⟩ := HY.out wR hR); exact exec_val (c := .agg #[.int .u8 y.k, .int .i64 y.n, .string y.s]) (wanted_yes (b := true) (t := 11) rfl rfl h11) (by go_simp) rfl
    case o11 => intro aR wR hR; replace hR := hR.undrew; intro v11 h11 e11; replace e11 : v11 = .bool true := e11; subst e11; intro v13 h13 e13; replace e13 : v13 = .agg #[.int .u8 x.k, .int .i64 x.n, .string x.s] := e13; subst e13; intro v17 h17 e17; replace e17 : v17 = .agg #[.int .u8 y.k, .int .i64 y.n, .string y.s] := e17; subst e17; refine exec_call (wanted_yes (b := true) (t := 11) rfl rfl h11) (by go_simp; exact ⟨rfl, rfl⟩) ?_; refine (HC.out wR).mono ?_; rintro e7 w8 ⟨rfl, kp8⟩; exact ⟨_, rfl, rfl, kp8⟩
    case o12 => intro aR wR hR; replace hR := hR.undrew; intro v11 h11 e11; replace e11 : v11 = .bool true := e11; subst e11; intro v12 h12 e12; replace e12 : v12 = .func (.func 84) #[] #[] := e12; subst e12; intro v18 h18 e18; replace e18 : v18 = .int .i64 cv := e18; subst e18; refine exec_call (wanted_yes (b := true) (t := 11) rfl rfl h11) (by go_simp; exact ⟨rfl, rfl⟩) ?_; refine (compares4_any cv wR).mono ?_; rintro e7 w8 ⟨rfl, kp8⟩; exact ⟨_, rfl, rfl, kp8⟩
    case o13 => intro aR wR hR; replace hR := hR.undrew; intro v11 h11 e11; replace e11 : v11 = .bool true := e11; subst e11; intro v19 h19 e19; replace e19 : v19 = .bool (decide (cv < 0)) := e19; subst e19; exact exec_val (c := .bool (decide (cv < 0))) (wanted_none rfl) (by go_simp) rfl
    case o14 => intro aR wR hR; replace hR := hR.undrew; intro v20 h20 e20; replace e20 : v20 = .bool (decide (cv < 0)) := e20; subst e20; exact exec_val (c := .bool (decide (cv < 0))) (wanted_none rfl) (by go_simp) rfl
  · intro vs wR hR hV
    obtain ⟨e0, e1, e2, e3, e4, e5, e6, e7, e8, e9, e10, e11, e12, e13, e14, -⟩ := hV
    replace e0 : vs 0 = .int .i64 0 := e0
    replace e1 : vs 1 = .slice (some ⟨b, off, none⟩) 1 c := e1
    replace e2 : vs 2 = .int .i64 ((1 : Nat) : Int) := e2
    replace e3 : vs 3 = .bool true := e3
    replace e4 : vs 4 = .bool true := e4
    replace e5 : vs 5 = .func (.func 84) #[] #[] := e5
    replace e6 : vs 6 = .agg #[.int .u8 x.k, .int .i64 x.n, .string x.s] := e6
    replace e7 : vs 7 = .slice (some ⟨b, off, none⟩) 1 c := e7
    replace e8 : vs 8 = .int .i64 0 := e8
    replace e9 : vs 9 = .pointer (some ⟨b, off, none⟩) := e9
    replace e10 : vs 10 = .agg #[.int .u8 y.k, .int .i64 y.n, .string y.s] := e10
    replace e11 : vs 11 = .int .i64 cv := e11
    replace e12 : vs 12 = .bool (decide (cv < 0)) := e12
    replace e13 : vs 13 = .bool (decide (cv < 0)) := e13
    replace e14 : vs 14 = .bool (decide (cv < 0)) := e14
    simp only [putAll, e0, e1, e2, e3, e4, e5, e6, e7, e8, e9, e10, e11, e12, e13, e14, Nat.reduceAdd, Nat.zero_add]
    clear e0 e1 e2 e3 e4 e5 e6 e7 e8 e9 e10 e11 e12 e13 e14
    try simp only [List.setIfInBounds_toArray, List.set_cons_succ, List.set_cons_zero]
    go_wp2_with fail
    go_ret
    exact ⟨rfl, hR⟩
/-- A slice that reads as values. -/
def SV.vals (n : Nat) (l : List V3) : SV := ⟨fun v u => ∃ ad cap, v = .slice ad n cap ∧ RdV u ad cap l, fun _ _ _ ⟨ad, cap, h1, h2⟩ hk => ⟨ad, cap, h1, RdV.keep0 h2 hk⟩⟩
theorem rdV_block {w : World} {g n : Nat} {t : TypeId} {l : List V3} (h : w.heap[g]? = some (.cells (l.flatMap vcells).toArray t (0, 0))) (hn : n = l.length) (hl : l.length ≤ 1000000) : RdV w (some ⟨g, 0, none⟩) n l := by
  subst hn
  refine ⟨Nat.le_refl _, by omega, fun i hi => ⟨g, 0, rfl, fun j hj => ?_⟩⟩
  rw [Nat.zero_add, cell_of_row w g _ _ _ _ h]
  have := flat_get vlies.len l i j hi hj
  simpa using this
theorem compares_any (x y : V3) (l : Option Addr) (c : Nat) (w : World) (hl : RdV w l c [y]) :
    Calls Try.prog 78 #[.agg #[.int .u8 x.k, .int .i64 x.n, .string x.s], .int .u8 3, .slice l 1 c] w fun e w' => e = .returned (.bool (decide (cV x y < 0))) ∧ Kp [] w w' := by
  have HL := Lib.hid hl
  have heg := enters_of (P := Try.prog) Try.func81 (by kernel_rfl) rfl
  have hb0 := fun (W : World) (o : Obj) => (Kp.refl [] W).alloc o
  clear hl
  go_enter Try.func78, Try.ntmps78
  go_wp2_with fail
  refine (compares1_any x y l c (w.heap.size + 1) w.heap.size _ ((RdV.keep0 HL.out (hb0 w _)).keep0 (hb0 _ _)) ?_ ?_).mono ?_
  · rw [cell_of_row _ (w.heap.size + 1) 0 _ _ _ (heap_alloc_at (by simp))]; rfl
  · exact cells_alloc (heap_alloc_at rfl)
  rintro e w5 ⟨rfl, kp⟩
  go_wp2_with fail
  go_ret
  exact ⟨rfl, ((hb0 w _).tr (hb0 _ _)).tr kp⟩
/-- A test that asks for less. -/
theorem passes4_any (out : Nat) (y : V3) (a : Option Addr) (n c : Nat) (r : List V3) (hn : n = r.length) (ho : out < n) (w : World) (hr : RdV w a c r) :
    Calls Try.prog 68 #[tstV ⟨4, (out : Int), 3, y⟩, .slice a n c] w fun e w' => e = .returned (.bool (decide (cV (atV r out) y < 0))) ∧ Kp [] w w' := by
  unfold tstV tstC
  dsimp only
  have hnb : n ≤ 9223372036854775807 := by have := hr.1; have := hr.2.1; omega
  have HN := Lib.hid hn
  have HR := Lib.hid hr
  have HC : Hid (∀ l c W, RdV W l c [y] → Calls Try.prog 78 #[.agg #[.int .u8 (atV r out).k, .int .i64 (atV r out).n, .string (atV r out).s], .int .u8 3, .slice l 1 c] W fun e w' => e = .returned (.bool (decide (cV (atV r out) y < 0))) ∧ Kp [] W w') := Lib.hid (fun l c W h => compares_any _ y l c W h)
  clear hn hr
  generalize decide (cV (atV r out) y < 0) = q at *
  go_enter Try.func68, Try.ntmps68
  go_upto_region 10 with (fail)
  obtain ⟨p, hp⟩ : ∃ p, p = w.heap.size := ⟨_, rfl⟩
  rw [← hp]
  obtain ⟨w1, hw1⟩ : ∃ w1, w1 = ((w.alloc (Obj.cells #[.int .u8 4, .slice none 0 0, .int .i64 out, .int .u8 3, .int .u8 y.k, .int .i64 y.n, .string y.s] 53)).alloc (Obj.cells #[.slice a n c] 36)).alloc (Obj.cells #[.func (.func 75) #[] #[.pointer (some ⟨p + 1, 0, none⟩)]] 99) := ⟨_, rfl⟩
  have k1 : Kp [] w w1 := by rw [hw1]; exact (((Kp.refl [] w).alloc _).alloc _).alloc _
  have h0 : w1.heap[p]? = some (.cells #[.int .u8 4, .slice none 0 0, .int .i64 out, .int .u8 3, .int .u8 y.k, .int .i64 y.n, .string y.s] 53) := by rw [hw1]; exact cells_alloc (cells_alloc (heap_alloc_at hp))
  have h1 : w1.heap[p + 1]? = some (.cells #[.slice a n c] 36) := by rw [hw1]; exact cells_alloc (heap_alloc_at (by simp [hp]))
  rw [← hw1]
  have K1 := Lib.hid k1
  have E0 : Hid (w1.cell? ⟨p, 2, none⟩ = some (.int .i64 out) ∧ w1.cell? ⟨p, 3, none⟩ = some (.int .u8 3) ∧ w1.cell? ⟨p, 4, none⟩ = some (.int .u8 y.k) ∧ w1.cell? ⟨p, 5, none⟩ = some (.int .i64 y.n) ∧ w1.cell? ⟨p, 6, none⟩ = some (.string y.s)) :=
    Lib.hid ⟨by rw [cell_of_row w1 p 2 _ _ _ h0]; rfl, by rw [cell_of_row w1 p 3 _ _ _ h0]; rfl, by rw [cell_of_row w1 p 4 _ _ _ h0]; rfl, by rw [cell_of_row w1 p 5 _ _ _ h0]; rfl, by rw [cell_of_row w1 p 6 _ _ _ h0]; rfl⟩
  have E1 : Hid (w1.cell? ⟨p + 1, 0, none⟩ = some (.slice a n c)) := Lib.hid (by rw [cell_of_row w1 (p + 1) 0 _ _ _ h1]; rfl)
  obtain ⟨b, off, rfl, hx⟩ := vals_at (RdV.keep0 HR.out k1) (s := out) (by rw [← HN.out]; exact ho)
  have HX := Lib.hid hx
  clear hw1 hp k1 h0 h1 hx
  generalize atV r out = x at *
  have hg0 : decide ((0 : Int) ≤ (out : Int)) = true := by simp
  refine wp_region_K (by kernel_rfl) [.val (.pointer (some ⟨p, 2, none⟩)), .val (.int .i64 (out : Int)), .val (.bool true), .val (.bool true), .val (.pointer (some ⟨p, 2, none⟩)), .val (.int .i64 (out : Int)), .val (.slice (some ⟨b, off, none⟩) n c), .val (.int .i64 ((n : Nat) : Int)), .val (.bool true), .val (.bool true), .val (.bool true), .val (.slice (some ⟨b, off, none⟩) n c), .val (.pointer (some ⟨p, 2, none⟩)), .val (.int .i64 (out : Int)), .val (.pointer (some ⟨b, off + out * 3, none⟩)), .val (.agg #[.int .u8 x.k, .int .i64 x.n, .string x.s]), .val (.pointer (some ⟨p, 3, none⟩)), .val (.int .u8 3), .val (.pointer (some ⟨p, 4, none⟩)), .val (.agg #[.int .u8 y.k, .int .i64 y.n, .string y.s]), .vals 1 [y], .val (.bool q), .val (.bool q), .val (.bool q)] [[(2, none)], [(31, some 0)], [(32, some 1)], [(33, some 2)], [(34, some 3), (2, none)], [(34, some 3), (35, some 4)], [(34, some 3), (3, none)], [(34, some 3), (37, some 6)], [(34, some 3), (36, some 5), (38, some 7)], [(34, some 3), (39, some 8)], [(40, some 9)], [(41, some 10), (3, none)], [(41, some 10), (2, none)], [(41, some 10), (43, some 12)], [(41, some 10), (42, some 11), (44, some 13)], [(41, some 10), (45, some 14)], [(41, some 10), (2, none)], [(41, some 10), (47, some 16)], [(41, some 10), (2, none)], [(41, some 10), (49, some 18)], [(41, some 10), (50, some 19)], [(41, some 10), (46, some 15), (48, some 17), (51, some 20)], [(41, some 10), (52, some 21)], [(53, some 22)]] rfl (by kernel_rfl) ?_ ?_
  · refine ⟨?o0, ?o1, ?o2, ?o3, ?o4, ?o5, ?o6, ?o7, ?o8, ?o9, ?o10, ?o11, ?o12, ?o13, ?o14, ?o15, ?o16, ?o17, ?o18, ?o19, ?o20, ?o21, ?o22, ?o23, trivial⟩
    case o0 => intro aR wR hR; replace hR := hR.undrew; intro (h2 : aR.tmps[2]? = some (.pointer (some ⟨p, 0, none⟩))); exact exec_val (c := .pointer (some ⟨p, 2, none⟩)) (wanted_none rfl) (by go_simp) rfl
    case o1 => intro aR wR hR; replace hR := hR.undrew; intro v31 h31 e31; replace e31 : v31 = .pointer (some ⟨p, 2, none⟩) := e31; subst e31; (have h1 := hR.cell E0.out.1 (by simp)); exact exec_val (c := .int .i64 (out : Int)) (wanted_none rfl) (by go_simp) rfl
    case o2 => intro aR wR hR; replace hR := hR.undrew; intro v32 h32 e32; replace e32 : v32 = .int .i64 (out : Int) := e32; subst e32; exact exec_val (c := .bool true) (wanted_none rfl) (by go_simp) rfl
    case o3 => intro aR wR hR; replace hR := hR.undrew; intro v33 h33 e33; replace e33 : v33 = .bool true := e33; subst e33; exact exec_val (c := .bool true) (wanted_none rfl) (by go_simp) rfl
    case o4 => intro aR wR hR; replace hR := hR.undrew; intro v34 h34 e34; replace e34 : v34 = .bool true := e34; subst e34; intro (h2 : aR.tmps[2]? = some (.pointer (some ⟨p, 0, none⟩))); exact exec_val (c := .pointer (some ⟨p, 2, none⟩)) (wanted_yes (b := true) (t := 34) rfl rfl h34) (by go_simp) rfl
    case o5 => intro aR wR hR; replace hR := hR.undrew; intro v34 h34 e34; replace e34 : v34 = .bool true := e34; subst e34; intro v35 h35 e35; replace e35 : v35 = .pointer (some ⟨p, 2, none⟩) := e35; subst e35; (have h1 := hR.cell E0.out.1 (by simp)); exact exec_val (c := .int .i64 (out : Int)) (wanted_yes (b := true) (t := 34) rfl rfl h34) (by go_simp) rfl
    case o6 => intro aR wR hR; replace hR := hR.undrew; intro v34 h34 e34; replace e34 : v34 = .bool true := e34; subst e34; intro (h3 : aR.tmps[3]? = some (.pointer (some ⟨p + 1, 0, none⟩))); (have h1 := hR.cell E1.out (by simp)); exact exec_val (c := .slice (some ⟨b, off, none⟩) n c) (wanted_yes (b := true) (t := 34) rfl rfl h34) (by go_simp) rfl
    case o7 => intro aR wR hR; replace hR := hR.undrew; intro v34 h34 e34; replace e34 : v34 = .bool true := e34; subst e34; intro v37 h37 e37; replace e37 : v37 = .slice (some ⟨b, off, none⟩) n c := e37; subst e37; exact exec_val (c := .int .i64 ((n : Nat) : Int)) (wanted_yes (b := true) (t := 34) rfl rfl h34) (by go_simp) rfl
    case o8 => intro aR wR hR; replace hR := hR.undrew; intro v34 h34 e34; replace e34 : v34 = .bool true := e34; subst e34; intro v36 h36 e36; replace e36 : v36 = .int .i64 (out : Int) := e36; subst e36; intro v38 h38 e38; replace e38 : v38 = .int .i64 ((n : Nat) : Int) := e38; subst e38; exact exec_val (c := .bool true) (wanted_yes (b := true) (t := 34) rfl rfl h34) (by go_simp) rfl
    case o9 => intro aR wR hR; replace hR := hR.undrew; intro v34 h34 e34; replace e34 : v34 = .bool true := e34; subst e34; intro v39 h39 e39; replace e39 : v39 = .bool true := e39; subst e39; exact exec_val (c := .bool true) (wanted_none rfl) (by go_simp) rfl
    case o10 => intro aR wR hR; replace hR := hR.undrew; intro v40 h40 e40; replace e40 : v40 = .bool true := e40; subst e40; exact exec_val (c := .bool true) (wanted_none rfl) (by go_simp) rfl
    case o11 => intro aR wR hR; replace hR := hR.undrew; intro v41 h41 e41; replace e41 : v41 = .bool true := e41; subst e41; intro (h3 : aR.tmps[3]? = some (.pointer (some ⟨p + 1, 0, none⟩))); (have h1 := hR.cell E1.out (by simp)); exact exec_val (c := .slice (some ⟨b, off, none⟩) n c) (wanted_yes (b := true) (t := 41) rfl rfl h41) (by go_simp) rfl
    case o12 => intro aR wR hR; replace hR := hR.undrew; intro v41 h41 e41; replace e41 : v41 = .bool true := e41; subst e41; intro (h2 : aR.tmps[2]? = some (.pointer (some ⟨p, 0, none⟩))); exact exec_val (c := .pointer (some ⟨p, 2, none⟩)) (wanted_yes (b := true) (t := 41) rfl rfl h41) (by go_simp) rfl
    case o13 => intro aR wR hR; replace hR := hR.undrew; intro v41 h41 e41; replace e41 : v41 = .bool true := e41; subst e41; intro v43 h43 e43; replace e43 : v43 = .pointer (some ⟨p, 2, none⟩) := e43; subst e43; (have h1 := hR.cell E0.out.1 (by simp)); exact exec_val (c := .int .i64 (out : Int)) (wanted_yes (b := true) (t := 41) rfl rfl h41) (by go_simp) rfl
    case o14 => intro aR wR hR; replace hR := hR.undrew; intro v41 h41 e41; replace e41 : v41 = .bool true := e41; subst e41; intro v42 h42 e42; replace e42 : v42 = .slice (some ⟨b, off, none⟩) n c := e42; subst e42; intro v44 h44 e44; replace e44 : v44 = .int .i64 (out : Int) := e44; subst e44; exact exec_val (c := .pointer (some ⟨b, off + out * 3, none⟩)) (wanted_yes (b := true) (t := 41) rfl rfl h41) (by go_simp) rfl
    case o15 => intro aR wR hR; replace hR := hR.undrew; intro v41 h41 e41; replace e41 : v41 = .bool true := e41; subst e41; intro v45 h45 e45; replace e45 : v45 = .pointer (some ⟨b, off + out * 3, none⟩) := e45; subst e45; (obtain ⟨h1, h2, h3⟩ := HX.out wR hR); exact exec_val (c := .agg #[.int .u8 x.k, .int .i64 x.n, .string x.s]) (wanted_yes (b := true) (t := 41) rfl rfl h41) (by go_simp) rfl
    case o16 => intro aR wR hR; replace hR := hR.undrew; intro v41 h41 e41; replace e41 : v41 = .bool true := e41; subst e41; intro (h2 : aR.tmps[2]? = some (.pointer (some ⟨p, 0, none⟩))); exact exec_val (c := .pointer (some ⟨p, 3, none⟩)) (wanted_yes (b := true) (t := 41) rfl rfl h41) (by go_simp) rfl
    case o17 => intro aR wR hR; replace hR := hR.undrew; intro v41 h41 e41; replace e41 : v41 = .bool true := e41; subst e41; intro v47 h47 e47; replace e47 : v47 = .pointer (some ⟨p, 3, none⟩) := e47; subst e47; (have h1 := hR.cell E0.out.2.1 (by simp)); exact exec_val (c := .int .u8 3) (wanted_yes (b := true) (t := 41) rfl rfl h41) (by go_simp) rfl
    case o18 => intro aR wR hR; replace hR := hR.undrew; intro v41 h41 e41; replace e41 : v41 = .bool true := e41; subst e41; intro (h2 : aR.tmps[2]? = some (.pointer (some ⟨p, 0, none⟩))); exact exec_val (c := .pointer (some ⟨p, 4, none⟩)) (wanted_yes (b := true) (t := 41) rfl rfl h41) (by go_simp) rfl
    case o19 => intro aR wR hR; replace hR := hR.undrew; intro v41 h41 e41; replace e41 : v41 = .bool true := e41; subst e41; intro v49 h49 e49; replace e49 : v49 = .pointer (some ⟨p, 4, none⟩) := e49; subst e49; (have h1 := hR.cell E0.out.2.2.1 (by simp); have h2 := hR.cell E0.out.2.2.2.1 (by simp); have h3 := hR.cell E0.out.2.2.2.2 (by simp)); exact exec_val (c := .agg #[.int .u8 y.k, .int .i64 y.n, .string y.s]) (wanted_yes (b := true) (t := 41) rfl rfl h41) (by go_simp) rfl
    case o20 => intro aR wR hR; replace hR := hR.undrew; intro v41 h41 e41; replace e41 : v41 = .bool true := e41; subst e41; intro v50 h50 e50; replace e50 : v50 = .agg #[.int .u8 y.k, .int .i64 y.n, .string y.s] := e50; subst e50; exact exec_do (c := .slice (some ⟨wR.heap.size, 0, none⟩) 1 1) (w' := wR.alloc (.cells (vcells y).toArray 38)) (wanted_yes (b := true) (t := 41) rfl rfl h41) (by simp only [vcells]; go_simp) ⟨_, _, rfl, rdV_block (l := [y]) (t := 38) (by simpa using heap_alloc_at rfl) rfl (by simp)⟩ ((Kp.refl [] _).alloc _)
    case o21 => intro aR wR hR; replace hR := hR.undrew; intro v41 h41 e41; replace e41 : v41 = .bool true := e41; subst e41; intro v46 h46 e46; replace e46 : v46 = .agg #[.int .u8 x.k, .int .i64 x.n, .string x.s] := e46; subst e46; intro v48 h48 e48; replace e48 : v48 = .int .u8 3 := e48; subst e48; intro v51 h51 e51; refine exec_call (wanted_yes (b := true) (t := 41) rfl rfl h41) (by go_simp; exact ⟨rfl, rfl⟩) ?_; obtain ⟨ad, cap, rfl, ho5⟩ := e51; refine (HC.out ad cap wR ho5).mono ?_; rintro e7 w8 ⟨rfl, kp8⟩; exact ⟨_, rfl, rfl, kp8⟩
    case o22 => intro aR wR hR; replace hR := hR.undrew; intro v41 h41 e41; replace e41 : v41 = .bool true := e41; subst e41; intro v52 h52 e52; replace e52 : v52 = .bool q := e52; subst e52; exact exec_val (c := .bool q) (wanted_none rfl) (by go_simp) rfl
    case o23 => intro aR wR hR; replace hR := hR.undrew; intro v53 h53 e53; replace e53 : v53 = .bool q := e53; subst e53; exact exec_val (c := .bool q) (wanted_none rfl) (by go_simp) rfl
  · intro vs wR hR hV
    obtain ⟨e0, e1, e2, e3, e4, e5, e6, e7, e8, e9, e10, e11, e12, e13, e14, e15, e16, e17, e18, e19, e20, e21, e22, e23, -⟩ := hV
    replace e0 : vs 0 = .pointer (some ⟨p, 2, none⟩) := e0
    replace e1 : vs 1 = .int .i64 (out : Int) := e1
    replace e2 : vs 2 = .bool true := e2
    replace e3 : vs 3 = .bool true := e3
    replace e4 : vs 4 = .pointer (some ⟨p, 2, none⟩) := e4
    replace e5 : vs 5 = .int .i64 (out : Int) := e5
    replace e6 : vs 6 = .slice (some ⟨b, off, none⟩) n c := e6
    replace e7 : vs 7 = .int .i64 ((n : Nat) : Int) := e7
    replace e8 : vs 8 = .bool true := e8
    replace e9 : vs 9 = .bool true := e9
    replace e10 : vs 10 = .bool true := e10
    replace e11 : vs 11 = .slice (some ⟨b, off, none⟩) n c := e11
    replace e12 : vs 12 = .pointer (some ⟨p, 2, none⟩) := e12
    replace e13 : vs 13 = .int .i64 (out : Int) := e13
    replace e14 : vs 14 = .pointer (some ⟨b, off + out * 3, none⟩) := e14
    replace e15 : vs 15 = .agg #[.int .u8 x.k, .int .i64 x.n, .string x.s] := e15
    replace e16 : vs 16 = .pointer (some ⟨p, 3, none⟩) := e16
    replace e17 : vs 17 = .int .u8 3 := e17
    replace e18 : vs 18 = .pointer (some ⟨p, 4, none⟩) := e18
    replace e19 : vs 19 = .agg #[.int .u8 y.k, .int .i64 y.n, .string y.s] := e19
    replace e21 : vs 21 = .bool q := e21
    replace e22 : vs 22 = .bool q := e22
    replace e23 : vs 23 = .bool q := e23
    simp only [putAll, e0, e1, e2, e3, e4, e5, e6, e7, e8, e9, e10, e11, e12, e13, e14, e15, e16, e17, e18, e19, e21, e22, e23, Nat.reduceAdd, Nat.zero_add]
    clear e0 e1 e2 e3 e4 e5 e6 e7 e8 e9 e10 e11 e12 e13 e14 e15 e16 e17 e18 e19 e21 e22 e23
    try simp only [List.setIfInBounds_toArray, List.set_cons_succ, List.set_cons_zero]
    go_wp2_with fail
    go_ret
    exact ⟨rfl, K1.out.tr hR⟩
end Go.Proofs.Ytfacpfogdcefpaa
