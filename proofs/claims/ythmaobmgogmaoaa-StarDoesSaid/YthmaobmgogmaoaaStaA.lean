/-
  Star-trees: comparing ids.
-/
import Derived.Test.YthmaobmgogmaoaaStaP
import Derived.WalkKit
namespace Go.Proofs.Ythmaobmgogmaoaa
open Go.RowKit
set_option linter.unusedSimpArgs false
set_option linter.unusedVariables false
set_option maxRecDepth 100000

theorem nanInt_any (n : Int) (w : World) : Calls Try.prog 68 #[.int .i64 n] w fun e w' => e = .returned (.bool false) ∧ w' = w := by
  go_enter Try.func68, Try.ntmps68
  go_wp2
  go_ret
  exact ⟨rfl, rfl⟩
def cmp1 (a b : Int) : Int := if a < b then -1 else if b < a then 1 else 0
theorem cmpInt_any (a b : Int) (w : World) : Calls Try.prog 65 #[.int .i64 a, .int .i64 b] w fun e w' => e = .returned (.int .i64 (cmp1 a b)) ∧ w' = w := by
  rcases Int.lt_trichotomy a b with h | h | h
  all_goals
    go_enter Try.func65, Try.ntmps65
    go_wp2_with first | (go_at_call 68; refine (nanInt_any _ _).mono ?_; rintro _ _ ⟨rfl, rfl⟩) | fail
    go_ret
    simp [cmp1]; try omega
theorem cmp_step (a b : Int) (s t : List Int) : cmpIs (a :: s) (b :: t) = if cmp1 a b = 0 then cmpIs s t else cmp1 a b := by
  unfold cmp1
  conv => lhs; unfold cmpIs
  by_cases h1 : a < b
  · simp [h1]
  · by_cases h2 : b < a
    · simp [h1, h2]
    · simp [h1, h2]
theorem drop_at {l : List Int} {i : Nat} (h : i < l.length) : l.drop i = nth l i :: l.drop (i + 1) := by
  rw [List.drop_eq_getElem_cons h]; simp [nth, h]

theorem cmpInts_any (a0 : Option Addr) (c0 n : Nat) (a : List Int) (hn : n = a.length) (b0 : Option Addr) (c1 : Nat) (b : List Int) (hm : n = b.length) (w : World) (ha : Rd w .i64 a0 c0 a) (hb : Rd w .i64 b0 c1 b) :
    Calls Try.prog 58 #[.slice a0 n c0, .slice b0 n c1] w fun e w' => e = .returned (.int .i64 (cmpIs a b)) ∧ Kp [] w w' := by
  have HA := Lib.hid ha
  have HB := Lib.hid hb
  have HN := Lib.hid hn
  have HM := Lib.hid hm
  have hnb : n ≤ 9223372036854775807 := by have := ha.1; have := ha.2.1; omega
  clear ha hb hn hm
  obtain ⟨v, hv⟩ : ∃ v, v = cmpIs a b := ⟨_, rfl⟩
  rw [← hv]
  have HV := Lib.hid hv
  clear hv
  go_enter Try.func58, Try.ntmps58
  go_wp2_with fail
  go_loopw [11] (fun vi wr => ∃ i : Nat, i ≤ n ∧ vi = .int .i64 i ∧ Hid (v = cmpIs (a.drop i) (b.drop i)) ∧ Hid (Kp [] w wr)) (fun vi _ => n - (intOf vi).toNat)
  case atStart => exact ⟨0, Nat.zero_le _, rfl, HV, Lib.hid (Kp.refl _ _)⟩
  case round =>
    obtain ⟨i, hi, rfl, HI, HK⟩ := hrel
    obtain ⟨wo, rfl⟩ : ∃ wo : World, wo = wr := ⟨_, rfl⟩
    by_cases hlt : i < n
    · obtain ⟨b1, o1, rfl, e1⟩ := (HA.out.keep0 HK.out).2.2 i (by rw [← HN.out]; exact hlt)
      obtain ⟨b2, o2, rfl, e2⟩ := (HB.out.keep0 HK.out).2.2 i (by rw [← HM.out]; exact hlt)
      have HS : Hid (v = if cmp1 (nth a i) (nth b i) = 0 then cmpIs (a.drop (i + 1)) (b.drop (i + 1)) else cmp1 (nth a i) (nth b i)) := Lib.hid (by
        rw [HI.out, drop_at (by rw [← HN.out]; exact hlt), drop_at (l := b) (by rw [← HM.out]; exact hlt), cmp_step])
      have hc : -1 ≤ cmp1 (nth a i) (nth b i) ∧ cmp1 (nth a i) (nth b i) ≤ 1 := by unfold cmp1; (repeat' split) <;> omega
      have HC : Hid (∀ W, Calls Try.prog 65 #[.int .i64 (nth a i), .int .i64 (nth b i)] W fun e w' => e = .returned (.int .i64 (cmp1 (nth a i) (nth b i))) ∧ w' = W) := Lib.hid (fun W => cmpInt_any _ _ W)
      generalize cmp1 (nth a i) (nth b i) = c at *
      generalize nth a i = x at *
      generalize nth b i = y at *
      go_wp2_with fail
      refine (HC.out wo).mono ?_
      rintro e w5 ⟨rfl, rfl⟩
      by_cases hz : c = 0
      · have HS2 : Hid (v = cmpIs (a.drop (i + 1)) (b.drop (i + 1))) := Lib.hid (by rw [HS.out, if_pos hz])
        subst hz
        clear HS
        go_wp2_with fail
        go_roundw
        case rel => exact ⟨i + 1, hlt, by go_num, HS2, HK⟩
        case measure => simp [intOf]; omega
      · have HS2 : Hid (v = c) := Lib.hid (by rw [HS.out, if_neg hz])
        have hcb : ((c : Int) != 0) = true := by simpa using hz
        clear HS hz
        go_wp2_with fail
        go_ret
        exact ⟨by rw [HS2.out]; rfl, HK.out⟩
    · obtain rfl : i = n := by omega
      have HS : Hid (v = 0) := Lib.hid (by rw [HI.out, List.drop_eq_nil_of_le (by rw [← HN.out]; exact Nat.le_refl _), List.drop_eq_nil_of_le (by rw [← HM.out]; exact Nat.le_refl _)]; rfl)
      go_wp2_with fail
      go_ret
      exact ⟨by rw [HS.out]; rfl, HK.out⟩

/-- All eight ids. -/
def Rc.all (x : Rc) : List Int := [x.ids 0, x.ids 1, x.ids 2, x.ids 3, x.ids 4, x.ids 5, x.ids 6, x.ids 7]
def cmpR (x y : Rc) : Int := cmpIs x.all y.all
theorem rd_all {w : World} {g : Nat} {x : Rc} {t : TypeId} (h : w.heap[g]? = some (.cells x.cells.toArray t (0, 0))) : Rd w .i64 (some ⟨g, 0, none⟩) 8 x.all := by
  refine ⟨by simp [Rc.all], by omega, fun i hi => ⟨g, 0, rfl, ?_⟩⟩
  rw [cell_of_row w g _ _ _ _ h]
  have hi : i < 8 := by simpa [Rc.all] using hi
  match i, hi with
  | 0, _ => rfl
  | 1, _ => rfl
  | 2, _ => rfl
  | 3, _ => rfl
  | 4, _ => rfl
  | 5, _ => rfl
  | 6, _ => rfl
  | 7, _ => rfl
theorem stTog1_any (x y : Rc) (w : World) : Calls Try.prog 57 #[x.v, y.v] w fun e w' => e = .returned (.int .i64 (cmpR x y)) ∧ Kp [] w w' := by
  unfold Rc.v
  obtain ⟨v, hv⟩ : ∃ v, v = cmpR x y := ⟨_, rfl⟩
  rw [← hv]
  have HV := Lib.hid hv
  clear hv
  have hb0 := fun (W : World) (o : Obj) => (Kp.refl [] W).alloc o
  go_enter Try.func57, Try.ntmps57
  go_upto_region 1 with (fail)
  obtain ⟨g, hg⟩ : ∃ g, g = w.heap.size := ⟨_, rfl⟩
  rw [← hg]
  obtain ⟨w1, hw1⟩ : ∃ w1, w1 = (w.alloc (Obj.cells x.cells.toArray 82)).alloc (Obj.cells y.cells.toArray 82) := ⟨_, rfl⟩
  have k1 : Kp [] w w1 := by rw [hw1]; exact (hb0 w _).alloc _
  have r1 : Rd w1 .i64 (some ⟨g, 0, none⟩) 8 x.all := rd_all (by rw [hw1]; exact cells_alloc (heap_alloc_at hg))
  have r2 : Rd w1 .i64 (some ⟨g + 1, 0, none⟩) 8 y.all := rd_all (by rw [hw1]; exact heap_alloc_at (by simp [hg]))
  rw [← hw1]
  have K1 := Lib.hid k1
  have HC : Hid (∀ W, Kp [] w1 W → Calls Try.prog 58 #[.slice (some ⟨g, 0, none⟩) 8 8, .slice (some ⟨g + 1, 0, none⟩) 8 8] W fun e w' => e = .returned (.int .i64 v) ∧ Kp [] W w') := Lib.hid (fun W hW => by
    rw [HV.out]; exact cmpInts_any _ _ 8 _ rfl _ _ _ rfl W (r1.keep0 hW) (r2.keep0 hW))
  clear hw1 hg k1 r1 r2 hb0
  refine wp_region_K (by kernel_rfl) [.val (.pointer (some ⟨g, 0, none⟩)), .val (.slice (some ⟨g, 0, none⟩) 8 8), .val (.pointer (some ⟨g + 1, 0, none⟩)), .val (.slice (some ⟨g + 1, 0, none⟩) 8 8), .val (.int .i64 v), .val (.int .i64 v)] [[(2, none)], [(5, some 0)], [(3, none)], [(7, some 2)], [(6, some 1), (8, some 3)], [(9, some 4)]] rfl (by kernel_rfl) ?_ ?_
  · refine ⟨?o0, ?o1, ?o2, ?o3, ?o4, ?o5, trivial⟩
    case o0 => intro aR wR hR; replace hR := hR.undrew; intro (h2 : aR.tmps[2]? = some (.pointer (some ⟨g, 0, none⟩))); exact exec_val (c := .pointer (some ⟨g, 0, none⟩)) (wanted_none rfl) (by go_simp) rfl
    case o1 => intro aR wR hR; replace hR := hR.undrew; intro v5 h5 e5; replace e5 : v5 = .pointer (some ⟨g, 0, none⟩) := e5; subst e5; exact exec_val (c := .slice (some ⟨g, 0, none⟩) 8 8) (wanted_none rfl) (by go_simp) rfl
    case o2 => intro aR wR hR; replace hR := hR.undrew; intro (h3 : aR.tmps[3]? = some (.pointer (some ⟨g + 1, 0, none⟩))); exact exec_val (c := .pointer (some ⟨g + 1, 0, none⟩)) (wanted_none rfl) (by go_simp) rfl
    case o3 => intro aR wR hR; replace hR := hR.undrew; intro v7 h7 e7; replace e7 : v7 = .pointer (some ⟨g + 1, 0, none⟩) := e7; subst e7; exact exec_val (c := .slice (some ⟨g + 1, 0, none⟩) 8 8) (wanted_none rfl) (by go_simp) rfl
    case o4 => intro aR wR hR; replace hR := hR.undrew; intro v6 h6 e6; replace e6 : v6 = .slice (some ⟨g, 0, none⟩) 8 8 := e6; subst e6; intro v8 h8 e8; replace e8 : v8 = .slice (some ⟨g + 1, 0, none⟩) 8 8 := e8; subst e8; refine exec_call (wanted_none rfl) (by go_simp; exact ⟨rfl, rfl⟩) ?_; refine (HC.out wR hR).mono ?_; rintro e7 w8 ⟨rfl, kp8⟩; exact ⟨_, rfl, rfl, kp8⟩
    case o5 => intro aR wR hR; replace hR := hR.undrew; intro v9 h9 e9; replace e9 : v9 = .int .i64 v := e9; subst e9; exact exec_val (c := .int .i64 v) (wanted_none rfl) (by go_simp) rfl
  · intro vs wR hR hV
    obtain ⟨e0, e1, e2, e3, e4, e5, -⟩ := hV
    replace e0 : vs 0 = .pointer (some ⟨g, 0, none⟩) := e0
    replace e1 : vs 1 = .slice (some ⟨g, 0, none⟩) 8 8 := e1
    replace e2 : vs 2 = .pointer (some ⟨g + 1, 0, none⟩) := e2
    replace e3 : vs 3 = .slice (some ⟨g + 1, 0, none⟩) 8 8 := e3
    replace e4 : vs 4 = .int .i64 v := e4
    replace e5 : vs 5 = .int .i64 v := e5
    simp only [putAll, e0, e1, e2, e3, e4, e5, Nat.reduceAdd, Nat.zero_add]
    clear e0 e1 e2 e3 e4 e5
    try simp only [List.setIfInBounds_toArray, List.set_cons_succ, List.set_cons_zero]
    go_wp2_with fail
    go_ret
    exact ⟨rfl, K1.out.tr hR⟩
end Go.Proofs.Ythmaobmgogmaoaa
