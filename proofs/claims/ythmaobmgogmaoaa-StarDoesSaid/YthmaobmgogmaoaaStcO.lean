/-
  The document's star-trees: nodes that are the same.
-/
import Derived.Test.YthmaobmgogmaoaaStcJ
namespace Go.Proofs.Ythmaobmgogmaoaa
open Go.RowKit Go.Shelf
set_option linter.unusedSimpArgs false
set_option linter.unusedVariables false
set_option maxRecDepth 100000

theorem kid_in (a b : Int) (w : World) : (Op.equalIn 10000 44 (.agg #[.int .i64 a, .int .i64 b]) (.agg #[.int .i64 a, .int .i64 b])).run Try.prog w = .ok true w := by
  have u2 := Try.underlying3
  have hS : Try.prog.underlying 44 = some (.struct (Try.prog.fieldsOf 44)) := by kernel_rfl
  have hp : Try.prog.stoodInHeld 44 = false := by kernel_rfl
  have a2 : ∀ w, (isAgg 3).run Try.prog w = .ok false w := fun w => by simp [isAgg, run_underlying u2]
  rw [show (10000 : Nat) = 9999 + 1 from rfl, run_equalIn_agg w 9999 44 _ _ hS hp]
  simp only [Program.fieldsOf, Try.underlying44]
  go_simp
theorem kid_neq (a b : Int) (w : World) : (binOp .neq 44 (.agg #[.int .i64 a, .int .i64 b]) (.agg #[.int .i64 a, .int .i64 b])).run Try.prog w = .ok (.bool false) w := by
  rw [run_neq_struct, kid_in]; rfl

set_option maxHeartbeats 1600000 in
theorem r19SameN_yes (d f t : Int) (ka : Option Addr) (kn kc : Nat) (kb : Option Addr) (kd : Nat) (kids : List (Int × Nat)) (hkn : kn = kids.length) (w : World) (ha : RdS kdcells 2 w ka kc kids) (hb : RdS kdcells 2 w kb kd kids) :
    Calls Try.prog 25 #[.agg #[.int .i64 d, .int .i64 f, .int .i64 t, .slice ka kn kc], .agg #[.int .i64 d, .int .i64 f, .int .i64 t, .slice kb kn kd]] w fun e w' => e = .returned (.bool true) ∧ Kp [] w w' := by
  have HA := Lib.hid ha
  have HB := Lib.hid hb
  have HN := Lib.hid hkn
  have hc1 : (kn ≤ kc ∧ kc ≤ 9223372036854775807) ∧ kn ≤ kd ∧ kd ≤ 9223372036854775807 := by rw [hkn]; exact ⟨⟨ha.1, ha.2.1⟩, hb.1, hb.2.1⟩
  obtain ⟨⟨hc1, hc2⟩, hc3, hc4⟩ := hc1
  clear ha hb hkn
  go_enter Try.func25, Try.ntmps25
  go_upto_region 1 with (fail)
  obtain ⟨p, hp⟩ : ∃ p, p = w.heap.size := ⟨_, rfl⟩
  obtain ⟨q, hq⟩ : ∃ q, q = w.heap.size + 1 := ⟨_, rfl⟩
  obtain ⟨w2, hw2⟩ : ∃ w2, w2 = (w.alloc (Obj.cells #[.int .i64 d, .int .i64 f, .int .i64 t, .slice ka kn kc] 40)).alloc (Obj.cells #[.int .i64 d, .int .i64 f, .int .i64 t, .slice kb kn kd] 40) := ⟨_, rfl⟩
  rw [← hw2, ← hq, ← hp]
  have HP : Hid (w2.heap[p]? = some (.cells #[.int .i64 d, .int .i64 f, .int .i64 t, .slice ka kn kc] 40)) := Lib.hid (by rw [hw2]; exact cells_alloc (heap_alloc_at hp))
  have HQ : Hid (w2.heap[q]? = some (.cells #[.int .i64 d, .int .i64 f, .int .i64 t, .slice kb kn kd] 40)) := Lib.hid (by rw [hw2]; exact heap_alloc_at (by simp [hq]))
  have HK : Hid (Kp [] w w2) := Lib.hid (by rw [hw2]; exact ((Kp.refl [] w).alloc _).alloc _)
  have p0 : w2.cell? ⟨p, 0, none⟩ = some (.int .i64 d) := by rw [cell_of_row w2 p 0 _ _ _ HP.out]; rfl
  have p1 : w2.cell? ⟨p, 1, none⟩ = some (.int .i64 f) := by rw [cell_of_row w2 p 1 _ _ _ HP.out]; rfl
  have p2 : w2.cell? ⟨p, 2, none⟩ = some (.int .i64 t) := by rw [cell_of_row w2 p 2 _ _ _ HP.out]; rfl
  have p3 : w2.cell? ⟨p, 3, none⟩ = some (.slice ka kn kc) := by rw [cell_of_row w2 p 3 _ _ _ HP.out]; rfl
  have q0 : w2.cell? ⟨q, 0, none⟩ = some (.int .i64 d) := by rw [cell_of_row w2 q 0 _ _ _ HQ.out]; rfl
  have q1 : w2.cell? ⟨q, 1, none⟩ = some (.int .i64 f) := by rw [cell_of_row w2 q 1 _ _ _ HQ.out]; rfl
  have q2 : w2.cell? ⟨q, 2, none⟩ = some (.int .i64 t) := by rw [cell_of_row w2 q 2 _ _ _ HQ.out]; rfl
  have q3 : w2.cell? ⟨q, 3, none⟩ = some (.slice kb kn kd) := by rw [cell_of_row w2 q 3 _ _ _ HQ.out]; rfl
  have hbd : (d != d) = false := by simp
  have hbf : (f != f) = false := by simp
  have hbt : (t != t) = false := by simp
  have hbn : ((kn : Int) != (kn : Int)) = false := by simp
  clear hw2 hp hq
  go_wp2_with fail
  go_loopw [5] (fun vi wr => ∃ s : Nat, s ≤ kn ∧ vi = .int .i64 s ∧ Hid (Kp [] w2 wr)) (fun vi _ => kn - (intOf vi).toNat)
  case atStart => exact ⟨0, Nat.zero_le _, rfl, Lib.hid (Kp.refl _ _)⟩
  case round =>
    obtain ⟨s, hs, rfl, HKR⟩ := hrel
    obtain ⟨wo, rfl⟩ : ∃ wo : World, wo = wr := ⟨_, rfl⟩
    have p3o := HKR.out.cell p3 (by simp)
    by_cases hlt : s < kn
    · have hsk : s < kids.length := by rw [← HN.out]; exact hlt
      obtain ⟨b1, o1, h1, -⟩ := HA.out.2.2 s hsk
      obtain ⟨b2, o2, h2, -⟩ := HB.out.2.2 s hsk
      subst h1
      subst h2
      have HR : Hid (∀ W, Kp [] wo W → W.rangeAt b1 (o1 + s * 2) [.int .i64 kids[s].1, .int .i64 ((kids[s].2 : Nat) : Int)] ∧ W.rangeAt b2 (o2 + s * 2) [.int .i64 kids[s].1, .int .i64 ((kids[s].2 : Nat) : Int)] ∧ W.cell? ⟨p, 3, none⟩ = some (.slice (some ⟨b1, o1, none⟩) kn kc) ∧ W.cell? ⟨q, 3, none⟩ = some (.slice (some ⟨b2, o2, none⟩) kn kd)) := Lib.hid (fun W hW => by
        have hk := HKR.out.tr hW
        obtain ⟨b1', o1', e1, c1⟩ := (RdS.keep0 HA.out kdlies.len (HK.out.tr hk)).2.2 s hsk
        obtain ⟨b2', o2', e2, c2⟩ := (RdS.keep0 HB.out kdlies.len (HK.out.tr hk)).2.2 s hsk
        cases e1
        cases e2
        refine ⟨fun j v hv => ?_, fun j v hv => ?_, hk.cell p3 (by simp), hk.cell q3 (by simp)⟩
        · have hj : j < 2 := (List.getElem?_eq_some_iff.1 hv).1
          rw [c1 j hj, ← hv]; rfl
        · have hj : j < 2 := (List.getElem?_eq_some_iff.1 hv).1
          rw [c2 j hj, ← hv]; rfl)
      generalize kids[s] = kd' at HR
      obtain ⟨yi, yn⟩ := kd'
      dsimp only at HR
      obtain ⟨zn, hzn⟩ : ∃ z : Int, z = (yn : Int) := ⟨_, rfl⟩
      rw [← hzn] at HR
      have hkq := kid_neq yi zn
      clear hzn hsk
      clear p0 p1 p2 p3 q0 q1 q2 q3
      go_upto_region 6 with (fail)
      refine wp_region_K (by kernel_rfl) [.val (.pointer (some ⟨p, 3, none⟩)), .val (.slice (some ⟨b1, o1, none⟩) kn kc), .val (.int .i64 (s : Int)), .val (.pointer (some ⟨b1, o1 + s * 2, none⟩)), .val (.agg #[.int .i64 yi, .int .i64 zn]), .val (.pointer (some ⟨q, 3, none⟩)), .val (.slice (some ⟨b2, o2, none⟩) kn kd), .val (.int .i64 (s : Int)), .val (.pointer (some ⟨b2, o2 + s * 2, none⟩)), .val (.agg #[.int .i64 yi, .int .i64 zn]), .val (.bool false)] [[(2, none)], [(41, some 0)], [(5, none)], [(42, some 1), (43, some 2)], [(44, some 3)], [(3, none)], [(46, some 5)], [(5, none)], [(47, some 6), (48, some 7)], [(49, some 8)], [(45, some 4), (50, some 9)]] rfl (by kernel_rfl) ?_ ?_
      · refine ⟨?o0, ?o1, ?o2, ?o3, ?o4, ?o5, ?o6, ?o7, ?o8, ?o9, ?o10, trivial⟩
        case o0 => intro aR wR hR; replace hR := hR.undrew; intro (h2 : aR.tmps[2]? = some (.pointer (some ⟨p, 0, none⟩))); exact exec_val (c := .pointer (some ⟨p, 3, none⟩)) (wanted_none rfl) (by go_simp) rfl
        case o1 => intro aR wR hR; replace hR := hR.undrew; intro v41 h41 e41; replace e41 : v41 = .pointer (some ⟨p, 3, none⟩) := e41; subst e41; (have h1 := (HR.out wR hR).2.2.1); exact exec_val (c := .slice (some ⟨b1, o1, none⟩) kn kc) (wanted_none rfl) (by go_simp) rfl
        case o2 => intro aR wR hR; replace hR := hR.undrew; intro (h5 : aR.tmps[5]? = some (.int .i64 (s : Int))); exact exec_val (c := .int .i64 (s : Int)) (wanted_none rfl) (by go_simp) rfl
        case o3 => intro aR wR hR; replace hR := hR.undrew; intro v42 h42 e42; replace e42 : v42 = .slice (some ⟨b1, o1, none⟩) kn kc := e42; subst e42; intro v43 h43 e43; replace e43 : v43 = .int .i64 (s : Int) := e43; subst e43; exact exec_val (c := .pointer (some ⟨b1, o1 + s * 2, none⟩)) (wanted_none rfl) (by go_simp) rfl
        case o4 => intro aR wR hR; replace hR := hR.undrew; intro v44 h44 e44; replace e44 : v44 = .pointer (some ⟨b1, o1 + s * 2, none⟩) := e44; subst e44; exact exec_val (c := .agg #[.int .i64 yi, .int .i64 zn]) (wanted_none rfl) (exec_ld rfl (b := b1) (o := o1 + s * 2) (by go_simp) (HR.out wR hR).1 Try.underlying44 rfl (by kernel_rfl)) rfl
        case o5 => intro aR wR hR; replace hR := hR.undrew; intro (h3 : aR.tmps[3]? = some (.pointer (some ⟨q, 0, none⟩))); exact exec_val (c := .pointer (some ⟨q, 3, none⟩)) (wanted_none rfl) (by go_simp) rfl
        case o6 => intro aR wR hR; replace hR := hR.undrew; intro v46 h46 e46; replace e46 : v46 = .pointer (some ⟨q, 3, none⟩) := e46; subst e46; (have h1 := (HR.out wR hR).2.2.2); exact exec_val (c := .slice (some ⟨b2, o2, none⟩) kn kd) (wanted_none rfl) (by go_simp) rfl
        case o7 => intro aR wR hR; replace hR := hR.undrew; intro (h5 : aR.tmps[5]? = some (.int .i64 (s : Int))); exact exec_val (c := .int .i64 (s : Int)) (wanted_none rfl) (by go_simp) rfl
        case o8 => intro aR wR hR; replace hR := hR.undrew; intro v47 h47 e47; replace e47 : v47 = .slice (some ⟨b2, o2, none⟩) kn kd := e47; subst e47; intro v48 h48 e48; replace e48 : v48 = .int .i64 (s : Int) := e48; subst e48; exact exec_val (c := .pointer (some ⟨b2, o2 + s * 2, none⟩)) (wanted_none rfl) (by go_simp) rfl
        case o9 => intro aR wR hR; replace hR := hR.undrew; intro v49 h49 e49; replace e49 : v49 = .pointer (some ⟨b2, o2 + s * 2, none⟩) := e49; subst e49; exact exec_val (c := .agg #[.int .i64 yi, .int .i64 zn]) (wanted_none rfl) (exec_ld rfl (b := b2) (o := o2 + s * 2) (by go_simp) (HR.out wR hR).2.1 Try.underlying44 rfl (by kernel_rfl)) rfl
        case o10 => intro aR wR hR; replace hR := hR.undrew; intro v45 h45 e45; replace e45 : v45 = .agg #[.int .i64 yi, .int .i64 zn] := e45; subst e45; intro v50 h50 e50; replace e50 : v50 = .agg #[.int .i64 yi, .int .i64 zn] := e50; subst e50; exact exec_val (c := .bool false) (wanted_none rfl) (by go_simp) rfl
      · intro vs wR hR hV
        obtain ⟨e0, e1, e2, e3, e4, e5, e6, e7, e8, e9, e10, -⟩ := hV
        replace e0 : vs 0 = .pointer (some ⟨p, 3, none⟩) := e0
        replace e1 : vs 1 = .slice (some ⟨b1, o1, none⟩) kn kc := e1
        replace e2 : vs 2 = .int .i64 (s : Int) := e2
        replace e3 : vs 3 = .pointer (some ⟨b1, o1 + s * 2, none⟩) := e3
        replace e4 : vs 4 = .agg #[.int .i64 yi, .int .i64 zn] := e4
        replace e5 : vs 5 = .pointer (some ⟨q, 3, none⟩) := e5
        replace e6 : vs 6 = .slice (some ⟨b2, o2, none⟩) kn kd := e6
        replace e7 : vs 7 = .int .i64 (s : Int) := e7
        replace e8 : vs 8 = .pointer (some ⟨b2, o2 + s * 2, none⟩) := e8
        replace e9 : vs 9 = .agg #[.int .i64 yi, .int .i64 zn] := e9
        replace e10 : vs 10 = .bool false := e10
        simp only [putAll, e0, e1, e2, e3, e4, e5, e6, e7, e8, e9, e10, Nat.reduceAdd, Nat.zero_add]
        clear e0 e1 e2 e3 e4 e5 e6 e7 e8 e9 e10
        try simp only [List.setIfInBounds_toArray, List.set_cons_succ, List.set_cons_zero]
        have HKN := Lib.hid (HKR.out.tr hR)
        clear p3o
        go_wp2_with fail
        go_roundw
        case rel => exact ⟨s + 1, hlt, by go_num, HKN⟩
        case measure => simp [intOf]; omega
    · go_wp2_with fail
      go_ret
      exact ⟨rfl, HK.out.tr HKR.out⟩
end Go.Proofs.Ythmaobmgogmaoaa
