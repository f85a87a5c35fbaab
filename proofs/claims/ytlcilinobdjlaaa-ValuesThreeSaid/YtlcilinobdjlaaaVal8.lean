/-
  Values: the law of three.
-/
import Derived.Test.YtlcilinobdjlaaaVal7
namespace Go.Proofs.Ytlcilinobdjlaaa
open Go.RowKit
set_option linter.unusedSimpArgs false
set_option linter.unusedVariables false

set_option maxRecDepth 100000 in
set_option maxHeartbeats 1000000 in
theorem valuesThree_any (k1 n1 : Int) (s1 : ByteArray) (k2 n2 : Int) (s2 : ByteArray) (k3 n3 : Int) (s3 : ByteArray) (w : World) :
    Calls Try.prog 9 #[.agg #[.int .u8 k1, .int .i64 n1, .string s1], .agg #[.int .u8 k2, .int .i64 n2, .string s2], .agg #[.int .u8 k3, .int .i64 n3, .string s3]] w fun e w' => e = .returned (.bool true) ∧ Kp [] w w' := by
  go_enter Try.func9, Try.ntmps9
  go_wp2_with (go_at_call 19; refine (known10_any _).mono ?_; rintro e w' ⟨rfl, kp⟩)
  · go_ret
    exact ⟨rfl, ((((Kp.refl [] w).alloc _).alloc _).alloc _).tr kp⟩
  · obtain ⟨w1, hw1⟩ : ∃ w1, w1 = ((w.alloc (Obj.cells #[Value.int IntKind.u8 k1, Value.int IntKind.i64 n1, Value.string s1] 36)).alloc (Obj.cells #[Value.int IntKind.u8 k2, Value.int IntKind.i64 n2, Value.string s2] 36)).alloc (Obj.cells #[Value.int IntKind.u8 k3, Value.int IntKind.i64 n3, Value.string s3] 36) := ⟨_, rfl⟩
    have hk1 : Kp [] w w1 := by rw [hw1]; exact (((Kp.refl [] w).alloc _).alloc _).alloc _
    have hA : w1.heap[w.heap.size]? = some (.cells #[Value.int IntKind.u8 k1, Value.int IntKind.i64 n1, Value.string s1] 36) := by rw [hw1]; exact cells_alloc (cells_alloc (heap_alloc_at rfl))
    have hB : w1.heap[w.heap.size + 1]? = some (.cells #[Value.int IntKind.u8 k2, Value.int IntKind.i64 n2, Value.string s2] 36) := by rw [hw1]; exact cells_alloc (heap_alloc_at (by simp))
    have hC : w1.heap[w.heap.size + 1 + 1]? = some (.cells #[Value.int IntKind.u8 k3, Value.int IntKind.i64 n3, Value.string s3] 36) := by rw [hw1]; exact heap_alloc_at (by simp)
    rw [← hw1]
    have H1 := Lib.hid (cells3 hA)
    have H2 := Lib.hid (cells3 hB)
    have H3 := Lib.hid (cells3 hC)
    clear hA hB hC hw1
    obtain ⟨ab, hab⟩ : ∃ x, x = cmpV k1 n1 s1 k2 n2 s2 := ⟨_, rfl⟩
    obtain ⟨bc, hbc⟩ : ∃ x, x = cmpV k2 n2 s2 k3 n3 s3 := ⟨_, rfl⟩
    obtain ⟨ac, hac⟩ : ∃ x, x = cmpV k1 n1 s1 k3 n3 s3 := ⟨_, rfl⟩
    refine wp_region_K (by kernel_rfl) [.val (.agg #[.int .u8 k1, .int .i64 n1, .string s1]), .val (.agg #[.int .u8 k2, .int .i64 n2, .string s2]), .val (.int .i64 ab), .val (.agg #[.int .u8 k2, .int .i64 n2, .string s2]), .val (.agg #[.int .u8 k3, .int .i64 n3, .string s3]), .val (.int .i64 bc), .val (.agg #[.int .u8 k1, .int .i64 n1, .string s1]), .val (.agg #[.int .u8 k3, .int .i64 n3, .string s3]), .val (.int .i64 ac), .val (.int .i64 ab), .val (.int .i64 bc), .val (.int .i64 ac)] [[(3, none)], [(4, none)], [(23, some 0), (24, some 1)], [(4, none)], [(5, none)], [(26, some 3), (27, some 4)], [(3, none)], [(5, none)], [(29, some 6), (30, some 7)], [(25, some 2)], [(28, some 5)], [(31, some 8)]] rfl (by kernel_rfl) ?_ ?_
    · refine ⟨?o0, ?o1, ?o2, ?o3, ?o4, ?o5, ?o6, ?o7, ?o8, ?o9, ?o10, ?o11, trivial⟩
      case o0 => intro aR wR hR; replace hR := hR.undrew; intro (h3 : aR.tmps[3]? = some (.pointer (some ⟨w.heap.size, 0, none⟩))); have c0 := hR.cell H1.out.1 (by simp); have c1 := hR.cell H1.out.2.1 (by simp); have c2 := hR.cell H1.out.2.2 (by simp); exact exec_val (c := .agg #[.int .u8 k1, .int .i64 n1, .string s1]) (wanted_none rfl) (by go_simp) rfl
      case o1 => intro aR wR hR; replace hR := hR.undrew; intro (h4 : aR.tmps[4]? = some (.pointer (some ⟨w.heap.size + 1, 0, none⟩))); have c0 := hR.cell H2.out.1 (by simp); have c1 := hR.cell H2.out.2.1 (by simp); have c2 := hR.cell H2.out.2.2 (by simp); exact exec_val (c := .agg #[.int .u8 k2, .int .i64 n2, .string s2]) (wanted_none rfl) (by go_simp) rfl
      case o2 => intro aR wR hR; replace hR := hR.undrew; intro v23 h23 e23; replace e23 : v23 = .agg #[.int .u8 k1, .int .i64 n1, .string s1] := e23; subst e23; intro v24 h24 e24; replace e24 : v24 = .agg #[.int .u8 k2, .int .i64 n2, .string s2] := e24; subst e24; refine exec_call (wanted_none rfl) (by go_simp; exact ⟨rfl, rfl⟩) ?_; refine (vCompare_any _ _ _ _ _ _ _).mono ?_; rintro e w7 ⟨rfl, kp7⟩; exact ⟨_, rfl, by rw [hab]; rfl, kp7⟩
      case o3 => intro aR wR hR; replace hR := hR.undrew; intro (h4 : aR.tmps[4]? = some (.pointer (some ⟨w.heap.size + 1, 0, none⟩))); have c0 := hR.cell H2.out.1 (by simp); have c1 := hR.cell H2.out.2.1 (by simp); have c2 := hR.cell H2.out.2.2 (by simp); exact exec_val (c := .agg #[.int .u8 k2, .int .i64 n2, .string s2]) (wanted_none rfl) (by go_simp) rfl
      case o4 => intro aR wR hR; replace hR := hR.undrew; intro (h5 : aR.tmps[5]? = some (.pointer (some ⟨w.heap.size + 1 + 1, 0, none⟩))); have c0 := hR.cell H3.out.1 (by simp); have c1 := hR.cell H3.out.2.1 (by simp); have c2 := hR.cell H3.out.2.2 (by simp); exact exec_val (c := .agg #[.int .u8 k3, .int .i64 n3, .string s3]) (wanted_none rfl) (by go_simp) rfl
      case o5 => intro aR wR hR; replace hR := hR.undrew; intro v26 h26 e26; replace e26 : v26 = .agg #[.int .u8 k2, .int .i64 n2, .string s2] := e26; subst e26; intro v27 h27 e27; replace e27 : v27 = .agg #[.int .u8 k3, .int .i64 n3, .string s3] := e27; subst e27; refine exec_call (wanted_none rfl) (by go_simp; exact ⟨rfl, rfl⟩) ?_; refine (vCompare_any _ _ _ _ _ _ _).mono ?_; rintro e w7 ⟨rfl, kp7⟩; exact ⟨_, rfl, by rw [hbc]; rfl, kp7⟩
      case o6 => intro aR wR hR; replace hR := hR.undrew; intro (h3 : aR.tmps[3]? = some (.pointer (some ⟨w.heap.size, 0, none⟩))); have c0 := hR.cell H1.out.1 (by simp); have c1 := hR.cell H1.out.2.1 (by simp); have c2 := hR.cell H1.out.2.2 (by simp); exact exec_val (c := .agg #[.int .u8 k1, .int .i64 n1, .string s1]) (wanted_none rfl) (by go_simp) rfl
      case o7 => intro aR wR hR; replace hR := hR.undrew; intro (h5 : aR.tmps[5]? = some (.pointer (some ⟨w.heap.size + 1 + 1, 0, none⟩))); have c0 := hR.cell H3.out.1 (by simp); have c1 := hR.cell H3.out.2.1 (by simp); have c2 := hR.cell H3.out.2.2 (by simp); exact exec_val (c := .agg #[.int .u8 k3, .int .i64 n3, .string s3]) (wanted_none rfl) (by go_simp) rfl
      case o8 => intro aR wR hR; replace hR := hR.undrew; intro v29 h29 e29; replace e29 : v29 = .agg #[.int .u8 k1, .int .i64 n1, .string s1] := e29; subst e29; intro v30 h30 e30; replace e30 : v30 = .agg #[.int .u8 k3, .int .i64 n3, .string s3] := e30; subst e30; refine exec_call (wanted_none rfl) (by go_simp; exact ⟨rfl, rfl⟩) ?_; refine (vCompare_any _ _ _ _ _ _ _).mono ?_; rintro e w7 ⟨rfl, kp7⟩; exact ⟨_, rfl, by rw [hac]; rfl, kp7⟩
      case o9 => intro aR wR hR; replace hR := hR.undrew; intro v25 h25 e25; replace e25 : v25 = .int .i64 ab := e25; subst e25; exact exec_val (c := .int .i64 ab) (wanted_none rfl) (by go_simp) rfl
      case o10 => intro aR wR hR; replace hR := hR.undrew; intro v28 h28 e28; replace e28 : v28 = .int .i64 bc := e28; subst e28; exact exec_val (c := .int .i64 bc) (wanted_none rfl) (by go_simp) rfl
      case o11 => intro aR wR hR; replace hR := hR.undrew; intro v31 h31 e31; replace e31 : v31 = .int .i64 ac := e31; subst e31; exact exec_val (c := .int .i64 ac) (wanted_none rfl) (by go_simp) rfl
    · intro vs wR hR hV
      obtain ⟨e0, e1, e2, e3, e4, e5, e6, e7, e8, e9, e10, e11, -⟩ := hV
      replace e0 : vs 0 = .agg #[.int .u8 k1, .int .i64 n1, .string s1] := e0
      replace e1 : vs 1 = .agg #[.int .u8 k2, .int .i64 n2, .string s2] := e1
      replace e2 : vs 2 = .int .i64 ab := e2
      replace e3 : vs 3 = .agg #[.int .u8 k2, .int .i64 n2, .string s2] := e3
      replace e4 : vs 4 = .agg #[.int .u8 k3, .int .i64 n3, .string s3] := e4
      replace e5 : vs 5 = .int .i64 bc := e5
      replace e6 : vs 6 = .agg #[.int .u8 k1, .int .i64 n1, .string s1] := e6
      replace e7 : vs 7 = .agg #[.int .u8 k3, .int .i64 n3, .string s3] := e7
      replace e8 : vs 8 = .int .i64 ac := e8
      replace e9 : vs 9 = .int .i64 ab := e9
      replace e10 : vs 10 = .int .i64 bc := e10
      replace e11 : vs 11 = .int .i64 ac := e11
      simp only [putAll, e0, e1, e2, e3, e4, e5, e6, e7, e8, e9, e10, e11, Nat.reduceAdd, Nat.zero_add]
      clear e0 e1 e2 e3 e4 e5 e6 e7 e8 e9 e10 e11
      simp only [List.setIfInBounds_toArray, List.set_cons_succ, List.set_cons_zero]
      have HK := Lib.hid (hk1.tr hR)
      have c0 := hR.cell H1.out.1 (by simp)
      have c1 := hR.cell H1.out.2.1 (by simp)
      have c2 := hR.cell H1.out.2.2 (by simp)
      have d0 := hR.cell H2.out.1 (by simp)
      have d1 := hR.cell H2.out.2.1 (by simp)
      have d2 := hR.cell H2.out.2.2 (by simp)
      have hanti := cmpV_anti k1 n1 s1 k2 n2 s2
      have hz := cmpV_zero k1 n1 s1 k2 n2 s2
      have ht := cmpV_T3 k1 n1 s1 k2 n2 s2 k3 n3 s3
      rw [← hab] at hanti hz ht
      rw [← hbc, ← hac] at ht
      clear hk1 hR hab hbc hac
      have HA := Lib.hid hanti.1
      have HT := Lib.hid ht
      have HZ := Lib.hid hz
      have hr1 := hanti.2.1
      have hr2 := hanti.2.2
      clear hanti hz ht
      go_wp2_with first
        | (go_at_call 19; refine (known10_any _).mono ?_; rintro e w' ⟨rfl, kp⟩)
        | (go_at_call 24; refine (vCompare_any _ _ _ _ _ _ _).mono ?_; rintro e w7 ⟨rfl, kp7⟩; rw [HA.out]; have HK7 := Lib.hid (HK.out.tr kp7); have f0 := kp7.cell c0 (by simp); have f1 := kp7.cell c1 (by simp); have f2 := kp7.cell c2 (by simp); have g0 := kp7.cell d0 (by simp); have g1 := kp7.cell d1 (by simp); have g2 := kp7.cell d2 (by simp); clear kp7 c0 c1 c2 d0 d1 d2)
      all_goals first
        | (go_ret; exact ⟨rfl, HK7.out.tr kp⟩)
        | (exfalso; have t := HT.out; have z := HZ.out; simp only [T3] at t; simp_all; done)
        | (exfalso; have t := HT.out; have z := HZ.out; simp only [T3] at t; simp_all; omega)
end Go.Proofs.Ytlcilinobdjlaaa
