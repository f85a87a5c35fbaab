/-
  Finishing: Compare, and the document's.
-/
import Derived.Test.YtfacpfogdcefpaaFin
namespace Go.Proofs.Ytfacpfogdcefpaa
open Go.RowKit Go.Shelf
set_option linter.unusedSimpArgs false
set_option linter.unusedVariables false
set_option maxRecDepth 100000

theorem vals_at {w : World} {a0 : Option Addr} {c0 : Nat} {a : List V3} (ha : RdV w a0 c0 a) {s : Nat} (hs : s < a.length) :
    ∃ b off, a0 = some ⟨b, off, none⟩ ∧ ∀ W, Kp [] w W → W.cell? ⟨b, off + s * 3, none⟩ = some (.int .u8 (atV a s).k) ∧ W.cell? ⟨b, off + s * 3 + 1, none⟩ = some (.int .i64 (atV a s).n) ∧ W.cell? ⟨b, off + s * 3 + 2, none⟩ = some (.string (atV a s).s) := by
  obtain ⟨b, off, rfl, -⟩ := ha.atV s hs
  refine ⟨b, off, rfl, fun W hW => ?_⟩
  obtain ⟨b2, off2, h2, h3⟩ := (ha.keep0 hW).atV s hs
  cases h2; exact h3
theorem min_two (n m : Nat) (wx : World) : (Builtin.min_ #[3, 3] 3 #[.int .i64 n, .int .i64 m]).run Try.prog wx = .ok (.int .i64 ((min n m : Nat) : Int)) wx := by
  simp [Builtin.min_, Builtin.min2]
  split <;> omega

theorem fiat_any (a0 : Option Addr) (c0 n : Nat) (a : List V3) (hn : n = a.length) (b0 : Option Addr) (c1 m : Nat) (b : List V3) (hm : m = b.length) (p : Int) (w : World) (ha : RdV w a0 c0 a) (hb : RdV w b0 c1 b) :
    Calls Try.prog 49 #[.slice a0 n c0, .slice b0 m c1, .int .i64 p] w fun e w' => e = .returned (.int .i64 (atW (min n m) p a b)) ∧ Kp [] w w' := by
  have HA := Lib.hid ha
  have HB := Lib.hid hb
  have HN := Lib.hid hn
  have HM := Lib.hid hm
  have hmin := min_two n m
  have HQ : Hid (((min n m : Nat) : Int) ≤ (n : Int) ∧ ((min n m : Nat) : Int) ≤ (m : Int)) := Lib.hid (by omega)
  have HV : Hid (atW (min n m) p a b = if 0 ≤ p ∧ p < ((min n m : Nat) : Int) then cV (atV a p.toNat) (atV b p.toNat) else 0) := Lib.hid rfl
  clear ha hb hn hm
  generalize atW (min n m) p a b = v at *
  generalize min n m = q at *
  by_cases h0 : (0 : Int) ≤ p
  · by_cases hp : p < (q : Int)
    · obtain ⟨s, rfl⟩ : ∃ s : Nat, p = (s : Int) := ⟨p.toNat, by omega⟩
      have hsn : s < n := by have := HQ.out; omega
      have hsm : s < m := by have := HQ.out; omega
      have HV2 : Hid (v = cV (atV a s) (atV b s)) := Lib.hid (by rw [HV.out, if_pos ⟨by omega, hp⟩, Int.toNat_natCast])
      obtain ⟨b1, off1, rfl, hx⟩ := vals_at HA.out (s := s) (by rw [← HN.out]; exact hsn)
      obtain ⟨b2, off2, rfl, hy⟩ := vals_at HB.out (s := s) (by rw [← HM.out]; exact hsm)
      have HX := Lib.hid hx
      have HY := Lib.hid hy
      clear hx hy
      have HC : Hid (∀ W, Calls Try.prog 18 #[.agg #[.int .u8 (atV a s).k, .int .i64 (atV a s).n, .string (atV a s).s], .agg #[.int .u8 (atV b s).k, .int .i64 (atV b s).n, .string (atV b s).s]] W fun e w' => e = .returned (.int .i64 v) ∧ Kp [] W w') := Lib.hid (fun W => by rw [HV2.out]; exact vCompare_any _ _ _ _ _ _ W)
      generalize atV a s = x at *
      generalize atV b s = y at *
      go_enter Try.func49, Try.ntmps49
      go_upto_region 3 with (fail)
      refine wp_region_K (by kernel_rfl) [.val (.slice (some ⟨b1, off1, none⟩) n c0), .val (.int .i64 (s : Int)), .val (.pointer (some ⟨b1, off1 + s * 3, none⟩)), .val (.agg #[.int .u8 x.k, .int .i64 x.n, .string x.s]), .val (.slice (some ⟨b2, off2, none⟩) m c1), .val (.int .i64 (s : Int)), .val (.pointer (some ⟨b2, off2 + s * 3, none⟩)), .val (.agg #[.int .u8 y.k, .int .i64 y.n, .string y.s]), .val (.int .i64 v), .val (.int .i64 v)] [[(0, none)], [(2, none)], [(18, some 0), (19, some 1)], [(20, some 2)], [(1, none)], [(2, none)], [(22, some 4), (23, some 5)], [(24, some 6)], [(21, some 3), (25, some 7)], [(26, some 8)]] rfl (by kernel_rfl) ?_ ?_
      · refine ⟨?o0, ?o1, ?o2, ?o3, ?o4, ?o5, ?o6, ?o7, ?o8, ?o9, trivial⟩
        case o0 => intro aR wR hR; replace hR := hR.undrew; intro (h0 : aR.tmps[0]? = some (.slice (some ⟨b1, off1, none⟩) n c0)); exact exec_val (c := .slice (some ⟨b1, off1, none⟩) n c0) (wanted_none rfl) (by go_simp) rfl
        case o1 => intro aR wR hR; replace hR := hR.undrew; intro (h2 : aR.tmps[2]? = some (.int .i64 (s : Int))); exact exec_val (c := .int .i64 (s : Int)) (wanted_none rfl) (by go_simp) rfl
        case o2 => intro aR wR hR; replace hR := hR.undrew; intro v18 h18 e18; replace e18 : v18 = .slice (some ⟨b1, off1, none⟩) n c0 := e18; subst e18; intro v19 h19 e19; replace e19 : v19 = .int .i64 (s : Int) := e19; subst e19; exact exec_val (c := .pointer (some ⟨b1, off1 + s * 3, none⟩)) (wanted_none rfl) (by go_simp) rfl
        case o3 => intro aR wR hR; replace hR := hR.undrew; intro v20 h20 e20; replace e20 : v20 = .pointer (some ⟨b1, off1 + s * 3, none⟩) := e20; subst e20; (obtain ⟨h1, h2, h3⟩ := HX.out wR hR); exact exec_val (c := .agg #[.int .u8 x.k, .int .i64 x.n, .string x.s]) (wanted_none rfl) (by go_simp) rfl
        case o4 => intro aR wR hR; replace hR := hR.undrew; intro (h1 : aR.tmps[1]? = some (.slice (some ⟨b2, off2, none⟩) m c1)); exact exec_val (c := .slice (some ⟨b2, off2, none⟩) m c1) (wanted_none rfl) (by go_simp) rfl
        case o5 => intro aR wR hR; replace hR := hR.undrew; intro (h2 : aR.tmps[2]? = some (.int .i64 (s : Int))); exact exec_val (c := .int .i64 (s : Int)) (wanted_none rfl) (by go_simp) rfl
        case o6 => intro aR wR hR; replace hR := hR.undrew; intro v22 h22 e22; replace e22 : v22 = .slice (some ⟨b2, off2, none⟩) m c1 := e22; subst e22; intro v23 h23 e23; replace e23 : v23 = .int .i64 (s : Int) := e23; subst e23; exact exec_val (c := .pointer (some ⟨b2, off2 + s * 3, none⟩)) (wanted_none rfl) (by go_simp) rfl
        case o7 => intro aR wR hR; replace hR := hR.undrew; intro v24 h24 e24; replace e24 : v24 = .pointer (some ⟨b2, off2 + s * 3, none⟩) := e24; subst e24; (obtain ⟨h1, h2, h3⟩ := HY.out wR hR); exact exec_val (c := .agg #[.int .u8 y.k, .int .i64 y.n, .string y.s]) (wanted_none rfl) (by go_simp) rfl
        case o8 => intro aR wR hR; replace hR := hR.undrew; intro v21 h21 e21; replace e21 : v21 = .agg #[.int .u8 x.k, .int .i64 x.n, .string x.s] := e21; subst e21; intro v25 h25 e25; replace e25 : v25 = .agg #[.int .u8 y.k, .int .i64 y.n, .string y.s] := e25; subst e25; refine exec_call (wanted_none rfl) (by go_simp; exact ⟨rfl, rfl⟩) ?_; refine (HC.out wR).mono ?_; rintro e7 w8 ⟨rfl, kp8⟩; exact ⟨_, rfl, rfl, kp8⟩
        case o9 => intro aR wR hR; replace hR := hR.undrew; intro v26 h26 e26; replace e26 : v26 = .int .i64 v := e26; subst e26; exact exec_val (c := .int .i64 v) (wanted_none rfl) (by go_simp) rfl
      · intro vs wR hR hV
        obtain ⟨e0, e1, e2, e3, e4, e5, e6, e7, e8, e9, -⟩ := hV
        replace e0 : vs 0 = .slice (some ⟨b1, off1, none⟩) n c0 := e0
        replace e1 : vs 1 = .int .i64 (s : Int) := e1
        replace e2 : vs 2 = .pointer (some ⟨b1, off1 + s * 3, none⟩) := e2
        replace e3 : vs 3 = .agg #[.int .u8 x.k, .int .i64 x.n, .string x.s] := e3
        replace e4 : vs 4 = .slice (some ⟨b2, off2, none⟩) m c1 := e4
        replace e5 : vs 5 = .int .i64 (s : Int) := e5
        replace e6 : vs 6 = .pointer (some ⟨b2, off2 + s * 3, none⟩) := e6
        replace e7 : vs 7 = .agg #[.int .u8 y.k, .int .i64 y.n, .string y.s] := e7
        replace e8 : vs 8 = .int .i64 v := e8
        replace e9 : vs 9 = .int .i64 v := e9
        simp only [putAll, e0, e1, e2, e3, e4, e5, e6, e7, e8, e9, Nat.reduceAdd, Nat.zero_add]
        clear e0 e1 e2 e3 e4 e5 e6 e7 e8 e9
        try simp only [List.setIfInBounds_toArray, List.set_cons_succ, List.set_cons_zero]
        go_wp2_with fail
        go_ret
        exact ⟨rfl, hR⟩
    · have HV2 : Hid (v = 0) := Lib.hid (by rw [HV.out, if_neg (fun h => hp h.2)])
      go_enter Try.func49, Try.ntmps49
      go_wp2_with fail
      go_ret
      exact ⟨by rw [HV2.out]; rfl, Kp.refl _ _⟩
  · have HV2 : Hid (v = 0) := Lib.hid (by rw [HV.out, if_neg (fun h => h0 h.1)])
    go_enter Try.func49, Try.ntmps49
    go_wp2_with fail
    go_ret
    exact ⟨by rw [HV2.out]; rfl, Kp.refl _ _⟩

theorem min_three (q n m : Nat) (wx : World) : (Builtin.min_ #[3, 3, 3] 3 #[.int .i64 q, .int .i64 n, .int .i64 m]).run Try.prog wx = .ok (.int .i64 ((min q (min n m) : Nat) : Int)) wx := by
  simp only [Builtin.min_, Builtin.min2, List.foldlM_cons, List.foldlM_nil, Sem.run_bind, Sem.run_pure, Result.andThen_ok]
  simp
  repeat' split
  all_goals (try simp)
  all_goals (try omega)
theorem max_zero (q : Int) (qn : Nat) (h : qn = q.toNat) (wx : World) : (Builtin.max_ #[3, 3] 3 #[.int .i64 q, .int .i64 0]).run Try.prog wx = .ok (.int .i64 (qn : Int)) wx := by
  subst h
  simp [Builtin.max_, Builtin.max2]; split <;> omega

set_option maxHeartbeats 800000 in
theorem fiCompare_any (a0 : Option Addr) (c0 n : Nat) (a : List V3) (hn : n = a.length) (b0 : Option Addr) (c1 m : Nat) (b : List V3) (hm : m = b.length) (q : Int) (k0 : Option Addr) (c2 kn : Nat) (ks : List Ky) (hk : kn = ks.length) (w : World) (ha : RdV w a0 c0 a) (hb : RdV w b0 c1 b) (hks : RdK w k0 c2 ks) :
    Calls Try.prog 24 #[.slice a0 n c0, .slice b0 m c1, .int .i64 q, .slice k0 kn c2] w fun e w' => e = .returned (.int .i64 (cmpW (min n m) q ks a b)) ∧ Kp [] w w' := by
  have HN := Lib.hid hn
  have HM := Lib.hid hm
  have HKN := Lib.hid hk
  have HAT : Hid (∀ W, Kp [] w W → ∀ p, Calls Try.prog 49 #[.slice a0 n c0, .slice b0 m c1, .int .i64 p] W fun e w' => e = .returned (.int .i64 (atW (min n m) p a b)) ∧ Kp [] W w') := Lib.hid (fun W k p => fiat_any a0 c0 n a hn b0 c1 m b hm p W (ha.keep0 k) (hb.keep0 k))
  have HKS := Lib.hid hks
  have hkc := hks.1
  rw [← hk] at hkc
  have hkc2 := hks.2.1
  obtain ⟨qn, hqn⟩ : ∃ qn : Nat, qn = q.toNat := ⟨_, rfl⟩
  have hmax := max_zero q qn hqn
  have hmin := min_three qn n m
  have HQN := Lib.hid hqn
  clear hqn
  have HRG : Hid (∀ p, -1 ≤ atW (min n m) p a b ∧ atW (min n m) p a b ≤ 1) := Lib.hid (fun p => (atW_anti _ _ _ _).2)
  have hnb : min n m ≤ n := by omega
  have hnc : n ≤ 9223372036854775807 := by have := ha.1; have := ha.2.1; omega
  clear ha hb hn hm hk hks
  obtain ⟨v, hv⟩ : ∃ v, v = cmpW (min n m) q ks a b := ⟨_, rfl⟩
  rw [← hv]
  have HV := Lib.hid hv
  clear hv
  generalize min n m = x at *
  obtain ⟨y, hy⟩ : ∃ y, y = min qn x := ⟨_, rfl⟩
  rw [← hy] at hmin
  have hyb : y ≤ x := by omega
  have HY := Lib.hid hy
  clear hy
  go_enter Try.func24, Try.ntmps24
  go_wp2_with fail
  go_loopw [16] (fun vi wr => ∃ i : Nat, i ≤ kn ∧ vi = .int .i64 i ∧ Hid (∀ j, j < i → keyW x (atK ks j) a b = 0) ∧ Hid (Kp [] w wr)) (fun vi _ => kn - (intOf vi).toNat)
  case atStart => exact ⟨0, Nat.zero_le _, rfl, Lib.hid (by simp), Lib.hid (Kp.refl _ _)⟩
  case round =>
    obtain ⟨i, hi, rfl, HZ, HK⟩ := hrel
    obtain ⟨wo, rfl⟩ : ∃ wo : World, wo = wr := ⟨_, rfl⟩
    by_cases hlt : i < kn
    · obtain ⟨bk, offk, rfl, d0, d1⟩ := (RdK.keep0 HKS.out HK.out).at' i (by rw [← HKN.out]; exact hlt)
      have HNX : Hid (keyW x (atK ks i) a b = 0 → ∀ j, j < i + 1 → keyW x (atK ks j) a b = 0) := Lib.hid (fun h j hj => by
        by_cases hji : j = i
        · rw [hji]; exact h
        · exact HZ.out j (by omega))
      have HHIT : Hid (keyW x (atK ks i) a b ≠ 0 → v = keyW x (atK ks i) a b) := Lib.hid (fun h => by rw [HV.out]; exact cmp_key (by rw [← HKN.out]; exact hlt) HZ.out h)
      generalize atK ks i = ky at *
      obtain ⟨ko, kd⟩ := ky
      have HKW : Hid (keyW x ⟨ko, kd⟩ a b = if kd then -(atW x ko a b) else atW x ko a b) := Lib.hid rfl
      generalize keyW x ⟨ko, kd⟩ a b = kw at *
      dsimp only at d0 d1
      go_upto_region 4 with (refine wpList_store_row rfl 56 _ _ rfl wo.heap.size #[.int .i64 ko, .bool kd] rfl rfl 56 _ (heap_alloc_at rfl) (by kernel_rfl) rfl (by simp [Value.oneCell']) ?_)
      obtain ⟨g, hg⟩ : ∃ g, g = wo.heap.size := ⟨_, rfl⟩
      generalize hz : (wo.alloc (Obj.cells _ _)).setRow _ _ = wz
      rw [← hg] at hz ⊢
      have hgz : wz.heap[g]? = some (.cells #[.int .i64 ko, .bool kd] 56) := by rw [← hz]; exact setRow_heap _ g _ _ _ _ (heap_alloc_at hg)
      have kz : Kp [] wo wz := by rw [← hz]; exact ((Kp.refl [] wo).alloc _).setRowF _ _ (.inr (by omega))
      have HGZ := Lib.hid hgz
      have KZ := Lib.hid kz
      have e0 : wz.cell? ⟨g, 0, none⟩ = some (.int .i64 ko) := by rw [cell_of_row wz g 0 _ _ _ hgz]; rfl
      clear hz hgz kz hg
      have HA2 := HAT.out wz (HK.out.tr KZ.out) ko
      have hr := HRG.out ko
      generalize atW x ko a b = aw at *
      obtain ⟨hr1, hr2⟩ := hr
      go_wp2_with fail
      refine HA2.mono ?_
      rintro e w5 ⟨rfl, kp5⟩
      have e1 : w5.cell? ⟨g, 1, none⟩ = some (.bool kd) := by rw [cell_of_row w5 g 1 _ _ _ (kp5.get HGZ.out (by simp))]; rfl
      have K5 := Lib.hid ((HK.out.tr KZ.out).tr kp5)
      clear kp5
      by_cases haz : aw = 0
      · subst haz
        have HZ2 := Lib.hid (HNX.out (by rw [HKW.out]; cases kd <;> rfl))
        go_wp2_with fail
        go_roundw
        case rel => exact ⟨i + 1, hlt, by go_num, HZ2, K5⟩
        case measure => simp [intOf]; omega
      · have hne : ((aw : Int) != 0) = true := by simpa using haz
        cases kd
        · have HH : Hid (v = aw) := Lib.hid (by rw [HHIT.out (by rw [HKW.out]; exact haz), HKW.out]; rfl)
          clear HHIT HNX HKW haz
          go_wp2_with fail
          go_ret
          exact ⟨by rw [HH.out]; rfl, K5.out⟩
        · have HH : Hid (v = -aw) := Lib.hid (by rw [HHIT.out (by rw [HKW.out]; simpa using haz), HKW.out]; rfl)
          have hwn : IntKind.i64.wrap (-aw) = -aw := IntWalk.i64_in _ (by omega)
          clear HHIT HNX HKW haz
          go_wp2_with fail
          go_ret
          exact ⟨by rw [HH.out]; rfl, K5.out⟩
    · obtain rfl : i = kn := by omega
      have HKZ : Hid (∀ j, j < ks.length → keyW x (atK ks j) a b = 0) := Lib.hid (by rw [← HKN.out]; exact HZ.out)
      go_wp2_with fail
      go_loopw [46] (fun vi wr => ∃ t : Nat, t ≤ y ∧ vi = .int .i64 t ∧ Hid (∀ j : Nat, j < t → atW x (j : Int) a b = 0) ∧ Hid (Kp [] w wr)) (fun vi _ => y - (intOf vi).toNat)
      case atStart => exact ⟨0, Nat.zero_le _, rfl, Lib.hid (by simp), HK⟩
      case round =>
        obtain ⟨t, ht, rfl, HZ2, HK2⟩ := hrel
        obtain ⟨wo, rfl⟩ : ∃ wo : World, wo = wr := ⟨_, rfl⟩
        by_cases hlt2 : t < y
        · have HNX : Hid (atW x (t : Int) a b = 0 → ∀ j : Nat, j < t + 1 → atW x (j : Int) a b = 0) := Lib.hid (fun h j hj => by
            by_cases hji : j = t
            · rw [hji]; exact h
            · exact HZ2.out j (by omega))
          have HHIT : Hid (atW x (t : Int) a b ≠ 0 → v = atW x (t : Int) a b) := Lib.hid (fun h => by rw [HV.out]; exact cmp_by HKZ.out (by have := HY.out; have := HQN.out; omega) HZ2.out h)
          have HA2 := HAT.out wo HK2.out (t : Int)
          generalize atW x (t : Int) a b = aw at *
          go_wp2_with fail
          refine HA2.mono ?_
          rintro e w5 ⟨rfl, kp5⟩
          have K5 := Lib.hid (HK2.out.tr kp5)
          clear kp5
          by_cases haz : aw = 0
          · subst haz
            have HZ3 := Lib.hid (HNX.out rfl)
            go_wp2_with fail
            go_roundw
            case rel => exact ⟨t + 1, hlt2, by go_num, HZ3, K5⟩
            case measure => simp [intOf]; omega
          · have hne : ((aw : Int) != 0) = true := by simpa using haz
            have HH : Hid (v = aw) := Lib.hid (HHIT.out haz)
            clear HHIT HNX haz
            go_wp2_with fail
            go_ret
            exact ⟨by rw [HH.out]; rfl, K5.out⟩
        · obtain rfl : t = y := by omega
          have HH : Hid (v = 0) := Lib.hid (by rw [HV.out]; exact cmp_none HKZ.out (by have := HY.out; have := HQN.out; omega) HZ2.out)
          go_wp2_with fail
          go_ret
          exact ⟨by rw [HH.out]; rfl, HK2.out⟩

/-- Two values, as the document compares them. -/
theorem r10Cmp_any (x y : V3) (w : World) (hx : x.s.size ≤ 1000000) (hy : y.s.size ≤ 1000000) :
    Calls Try.prog 50 #[.agg #[.int .u8 x.k, .int .i64 x.n, .string x.s], .agg #[.int .u8 y.k, .int .i64 y.n, .string y.s]] w fun e w' => e = .returned (.int .i64 (cV x y)) ∧ Kp [] w w' := by
  have := r10Compare_any x.k x.n x.s y.k y.n y.s w hx hy
  rwa [cmpL_V] at this

set_option maxHeartbeats 1600000 in
theorem r27Compare_any (a0 : Option Addr) (c0 n : Nat) (a : List V3) (hn : n = a.length) (b0 : Option Addr) (c1 m : Nat) (b : List V3) (hm : m = b.length) (qn : Nat) (k0 : Option Addr) (c2 kn : Nat) (ks : List Ky) (hk : kn = ks.length) (w : World) (ha : RdV w a0 c0 a) (hb : RdV w b0 c1 b) (hks : RdK w k0 c2 ks)
    (hsa : ∀ x ∈ a, x.s.size ≤ 1000000) (hsb : ∀ x ∈ b, x.s.size ≤ 1000000) :
    Calls Try.prog 25 #[.slice a0 n c0, .slice b0 m c1, .int .i64 (qn : Int), .slice k0 kn c2] w fun e w' => e = .returned (.int .i64 (cmpW (min n m) (qn : Int) ks a b)) ∧ Kp [] w w' := by
  have HA := Lib.hid ha
  have HB := Lib.hid hb
  have HN := Lib.hid hn
  have HM := Lib.hid hm
  have HKN := Lib.hid hk
  have HKS := Lib.hid hks
  have HSA : Hid (∀ s, s < n → (atV a s).s.size ≤ 1000000) := Lib.hid (fun s hs => by rw [atV_eq a s (by omega)]; exact hsa _ (List.getElem_mem _))
  have HSB : Hid (∀ s, s < m → (atV b s).s.size ≤ 1000000) := Lib.hid (fun s hs => by rw [atV_eq b s (by omega)]; exact hsb _ (List.getElem_mem _))
  have hnc : n ≤ 9223372036854775807 := by have := ha.1; have := ha.2.1; omega
  have hkc : kn ≤ 9223372036854775807 := by have := hks.1; have := hks.2.1; omega
  have HRG : Hid (∀ p, -1 ≤ atW (min n m) p a b ∧ atW (min n m) p a b ≤ 1) := Lib.hid (fun p => (atW_anti _ _ _ _).2)
  have HQ : Hid (∀ p : Int, p < ((min n m : Nat) : Int) ↔ (p < (n : Int) ∧ p < (m : Int))) := Lib.hid (fun p => by omega)
  have HQ2 : Hid (∀ p : Nat, (min n m ≤ p) ↔ (n ≤ p ∨ m ≤ p)) := Lib.hid (fun p => by omega)
  have HAT : Hid (∀ s : Nat, s < n → s < m → atW (min n m) (s : Int) a b = cV (atV a s) (atV b s)) := Lib.hid (fun s h1 h2 => by
    rw [atW, if_pos (by omega), Int.toNat_natCast])
  have HOUT : Hid (∀ p : Int, ¬ (0 ≤ p ∧ p < (n : Int) ∧ p < (m : Int)) → atW (min n m) p a b = 0) := Lib.hid (fun p h => by rw [atW, if_neg (by omega)])
  clear ha hb hn hm hk hks hsa hsb
  obtain ⟨v, hv⟩ : ∃ v, v = cmpW (min n m) (qn : Int) ks a b := ⟨_, rfl⟩
  rw [← hv]
  have HV := Lib.hid hv
  clear hv
  generalize min n m = x at *
  go_enter Try.func25, Try.ntmps25
  go_wp2_with fail
  go_loopw [9] (fun vi wr => ∃ i : Nat, i ≤ kn ∧ vi = .int .i64 i ∧ Hid (∀ j, j < i → keyW x (atK ks j) a b = 0) ∧ Hid (Kp [] w wr)) (fun vi _ => kn - (intOf vi).toNat)
  case atStart => exact ⟨0, Nat.zero_le _, rfl, Lib.hid (by simp), Lib.hid (Kp.refl _ _)⟩
  case round =>
    obtain ⟨i, hi, rfl, HZ, HK⟩ := hrel
    obtain ⟨wo, rfl⟩ : ∃ wo : World, wo = wr := ⟨_, rfl⟩
    by_cases hlt : i < kn
    · obtain ⟨bk, offk, rfl, d0, d1⟩ := (RdK.keep0 HKS.out HK.out).at' i (by rw [← HKN.out]; exact hlt)
      have HNX : Hid (keyW x (atK ks i) a b = 0 → ∀ j, j < i + 1 → keyW x (atK ks j) a b = 0) := Lib.hid (fun h j hj => by
        by_cases hji : j = i
        · rw [hji]; exact h
        · exact HZ.out j (by omega))
      have HHIT : Hid (keyW x (atK ks i) a b ≠ 0 → v = keyW x (atK ks i) a b) := Lib.hid (fun h => by rw [HV.out]; exact cmp_key (by rw [← HKN.out]; exact hlt) HZ.out h)
      have D1 := Lib.hid d1
      generalize atK ks i = ky at *
      obtain ⟨ko, kd⟩ := ky
      have HKW : Hid (keyW x ⟨ko, kd⟩ a b = if kd then -(atW x ko a b) else atW x ko a b) := Lib.hid rfl
      generalize keyW x ⟨ko, kd⟩ a b = kw at *
      dsimp only at d0 d1 D1
      by_cases hin : 0 ≤ ko ∧ ko < (n : Int) ∧ ko < (m : Int)
      · obtain ⟨s, rfl⟩ : ∃ s : Nat, ko = (s : Int) := ⟨ko.toNat, by omega⟩
        obtain ⟨-, hin1, hin2⟩ := hin
        have hsn : s < n := by omega
        have hsm : s < m := by omega
        obtain ⟨b1, off1, rfl, hx⟩ := vals_at (RdV.keep0 HA.out HK.out) (s := s) (by rw [← HN.out]; exact hsn)
        obtain ⟨b2, off2, rfl, hy⟩ := vals_at (RdV.keep0 HB.out HK.out) (s := s) (by rw [← HM.out]; exact hsm)
        have HX := Lib.hid hx
        have HY := Lib.hid hy
        clear hx hy
        have hr := HRG.out (s : Int)
        rw [HAT.out s hsn hsm] at HKW hr
        have HC : Hid (∀ W, Calls Try.prog 50 #[.agg #[.int .u8 (atV a s).k, .int .i64 (atV a s).n, .string (atV a s).s], .agg #[.int .u8 (atV b s).k, .int .i64 (atV b s).n, .string (atV b s).s]] W fun e w' => e = .returned (.int .i64 (cV (atV a s) (atV b s))) ∧ Kp [] W w') := Lib.hid (fun W => r10Cmp_any _ _ W (HSA.out s hsn) (HSB.out s hsm))
        generalize cV (atV a s) (atV b s) = aw at *
        generalize atV a s = vx at *
        generalize atV b s = vy at *
        obtain ⟨hr1, hr2⟩ := hr
        go_upto_region 6 with (fail)
        refine wp_region_K (by kernel_rfl) [.val (.slice (some ⟨b1, off1, none⟩) n c0), .val (.int .i64 (s : Int)), .val (.pointer (some ⟨b1, off1 + s * 3, none⟩)), .val (.agg #[.int .u8 vx.k, .int .i64 vx.n, .string vx.s]), .val (.slice (some ⟨b2, off2, none⟩) m c1), .val (.int .i64 (s : Int)), .val (.pointer (some ⟨b2, off2 + s * 3, none⟩)), .val (.agg #[.int .u8 vy.k, .int .i64 vy.n, .string vy.s]), .val (.int .i64 aw), .val (.int .i64 aw)] [[(0, none)], [(10, none)], [(39, some 0), (40, some 1)], [(41, some 2)], [(1, none)], [(10, none)], [(43, some 4), (44, some 5)], [(45, some 6)], [(42, some 3), (46, some 7)], [(47, some 8)]] rfl (by kernel_rfl) ?_ ?_
        · refine ⟨?o0, ?o1, ?o2, ?o3, ?o4, ?o5, ?o6, ?o7, ?o8, ?o9, trivial⟩
          case o0 => intro aR wR hR; replace hR := hR.undrew; intro (h0 : aR.tmps[0]? = some (.slice (some ⟨b1, off1, none⟩) n c0)); exact exec_val (c := .slice (some ⟨b1, off1, none⟩) n c0) (wanted_none rfl) (by go_simp) rfl
          case o1 => intro aR wR hR; replace hR := hR.undrew; intro (h10 : aR.tmps[10]? = some (.int .i64 (s : Int))); exact exec_val (c := .int .i64 (s : Int)) (wanted_none rfl) (by go_simp) rfl
          case o2 => intro aR wR hR; replace hR := hR.undrew; intro v39 h39 e39; replace e39 : v39 = .slice (some ⟨b1, off1, none⟩) n c0 := e39; subst e39; intro v40 h40 e40; replace e40 : v40 = .int .i64 (s : Int) := e40; subst e40; exact exec_val (c := .pointer (some ⟨b1, off1 + s * 3, none⟩)) (wanted_none rfl) (by go_simp) rfl
          case o3 => intro aR wR hR; replace hR := hR.undrew; intro v41 h41 e41; replace e41 : v41 = .pointer (some ⟨b1, off1 + s * 3, none⟩) := e41; subst e41; (obtain ⟨h1, h2, h3⟩ := HX.out wR hR); exact exec_val (c := .agg #[.int .u8 vx.k, .int .i64 vx.n, .string vx.s]) (wanted_none rfl) (by go_simp) rfl
          case o4 => intro aR wR hR; replace hR := hR.undrew; intro (h1 : aR.tmps[1]? = some (.slice (some ⟨b2, off2, none⟩) m c1)); exact exec_val (c := .slice (some ⟨b2, off2, none⟩) m c1) (wanted_none rfl) (by go_simp) rfl
          case o5 => intro aR wR hR; replace hR := hR.undrew; intro (h10 : aR.tmps[10]? = some (.int .i64 (s : Int))); exact exec_val (c := .int .i64 (s : Int)) (wanted_none rfl) (by go_simp) rfl
          case o6 => intro aR wR hR; replace hR := hR.undrew; intro v43 h43 e43; replace e43 : v43 = .slice (some ⟨b2, off2, none⟩) m c1 := e43; subst e43; intro v44 h44 e44; replace e44 : v44 = .int .i64 (s : Int) := e44; subst e44; exact exec_val (c := .pointer (some ⟨b2, off2 + s * 3, none⟩)) (wanted_none rfl) (by go_simp) rfl
          case o7 => intro aR wR hR; replace hR := hR.undrew; intro v45 h45 e45; replace e45 : v45 = .pointer (some ⟨b2, off2 + s * 3, none⟩) := e45; subst e45; (obtain ⟨h1, h2, h3⟩ := HY.out wR hR); exact exec_val (c := .agg #[.int .u8 vy.k, .int .i64 vy.n, .string vy.s]) (wanted_none rfl) (by go_simp) rfl
          case o8 => intro aR wR hR; replace hR := hR.undrew; intro v42 h42 e42; replace e42 : v42 = .agg #[.int .u8 vx.k, .int .i64 vx.n, .string vx.s] := e42; subst e42; intro v46 h46 e46; replace e46 : v46 = .agg #[.int .u8 vy.k, .int .i64 vy.n, .string vy.s] := e46; subst e46; refine exec_call (wanted_none rfl) (by go_simp; exact ⟨rfl, rfl⟩) ?_; refine (HC.out wR).mono ?_; rintro e7 w8 ⟨rfl, kp8⟩; exact ⟨_, rfl, rfl, kp8⟩
          case o9 => intro aR wR hR; replace hR := hR.undrew; intro v47 h47 e47; replace e47 : v47 = .int .i64 aw := e47; subst e47; exact exec_val (c := .int .i64 aw) (wanted_none rfl) (by go_simp) rfl
        · intro vs wR hR hV
          obtain ⟨e0, e1, e2, e3, e4, e5, e6, e7, e8, e9, -⟩ := hV
          replace e0 : vs 0 = .slice (some ⟨b1, off1, none⟩) n c0 := e0
          replace e1 : vs 1 = .int .i64 (s : Int) := e1
          replace e2 : vs 2 = .pointer (some ⟨b1, off1 + s * 3, none⟩) := e2
          replace e3 : vs 3 = .agg #[.int .u8 vx.k, .int .i64 vx.n, .string vx.s] := e3
          replace e4 : vs 4 = .slice (some ⟨b2, off2, none⟩) m c1 := e4
          replace e5 : vs 5 = .int .i64 (s : Int) := e5
          replace e6 : vs 6 = .pointer (some ⟨b2, off2 + s * 3, none⟩) := e6
          replace e7 : vs 7 = .agg #[.int .u8 vy.k, .int .i64 vy.n, .string vy.s] := e7
          replace e8 : vs 8 = .int .i64 aw := e8
          replace e9 : vs 9 = .int .i64 aw := e9
          simp only [putAll, e0, e1, e2, e3, e4, e5, e6, e7, e8, e9, Nat.reduceAdd, Nat.zero_add]
          clear e0 e1 e2 e3 e4 e5 e6 e7 e8 e9
          try simp only [List.setIfInBounds_toArray, List.set_cons_succ, List.set_cons_zero]
          have e1 := hR.cell D1.out (by simp)
          by_cases haz : aw = 0
          · subst haz
            have HZ2 := Lib.hid (HNX.out (by rw [HKW.out]; cases kd <;> rfl))
            go_wp2_with fail
            go_roundw
            case rel => exact ⟨i + 1, hlt, by go_num, HZ2, Lib.hid (HK.out.tr hR)⟩
            case measure => simp [intOf]; omega
          · have hne : ((aw : Int) != 0) = true := by simpa using haz
            cases kd
            · have HH : Hid (v = aw) := Lib.hid (by rw [HHIT.out (by rw [HKW.out]; exact haz), HKW.out]; rfl)
              clear HHIT HNX HKW haz
              go_wp2_with fail
              go_ret
              exact ⟨by rw [HH.out]; rfl, HK.out.tr hR⟩
            · have HH : Hid (v = -aw) := Lib.hid (by rw [HHIT.out (by rw [HKW.out]; simpa using haz), HKW.out]; rfl)
              have hwn : IntKind.i64.wrap (-aw) = -aw := IntWalk.i64_in _ (by omega)
              clear HHIT HNX HKW haz
              go_wp2_with fail
              go_ret
              exact ⟨by rw [HH.out]; rfl, HK.out.tr hR⟩
      · have HZ2 := Lib.hid (HNX.out (by rw [HKW.out, HOUT.out ko hin]; cases kd <;> rfl))
        clear HNX HHIT HKW
        by_cases h0 : ko < 0
        · go_wp2_with fail
          go_roundw
          case rel => exact ⟨i + 1, hlt, by go_num, HZ2, HK⟩
          case measure => simp [intOf]; omega
        · by_cases h1 : (n : Int) ≤ ko
          · go_wp2_with fail
            go_roundw
            case rel => exact ⟨i + 1, hlt, by go_num, HZ2, HK⟩
            case measure => simp [intOf]; omega
          · have h2 : (m : Int) ≤ ko := by omega
            clear hin
            go_wp2_with fail
            go_roundw
            case rel => exact ⟨i + 1, hlt, by go_num, HZ2, HK⟩
            case measure => simp [intOf]; omega
    · obtain rfl : i = kn := by omega
      have HKZ : Hid (∀ j, j < ks.length → keyW x (atK ks j) a b = 0) := Lib.hid (by rw [← HKN.out]; exact HZ.out)
      go_wp2_with fail
      go_loopw [12] (fun vi wr => ∃ t : Nat, t ≤ n ∧ vi = .int .i64 t ∧ Hid (∀ j : Nat, j < t → atW x (j : Int) a b = 0) ∧ Hid (Kp [] w wr)) (fun vi _ => n - (intOf vi).toNat)
      case atStart => exact ⟨0, Nat.zero_le _, rfl, Lib.hid (by simp), HK⟩
      case round =>
        obtain ⟨t, ht, rfl, HZ2, HK2⟩ := hrel
        obtain ⟨wo, rfl⟩ : ∃ wo : World, wo = wr := ⟨_, rfl⟩
        by_cases hin : t < qn ∧ t < n ∧ t < m
        · obtain ⟨hqt, hsn, hsm⟩ := hin
          have HNX : Hid (atW x (t : Int) a b = 0 → ∀ j : Nat, j < t + 1 → atW x (j : Int) a b = 0) := Lib.hid (fun h j hj => by
            by_cases hji : j = t
            · rw [hji]; exact h
            · exact HZ2.out j (by omega))
          have HHIT : Hid (atW x (t : Int) a b ≠ 0 → v = atW x (t : Int) a b) := Lib.hid (fun h => by rw [HV.out]; exact cmp_by HKZ.out (by omega) HZ2.out h)
          obtain ⟨b1, off1, rfl, hx⟩ := vals_at (RdV.keep0 HA.out HK2.out) (s := t) (by rw [← HN.out]; exact hsn)
          obtain ⟨b2, off2, rfl, hy⟩ := vals_at (RdV.keep0 HB.out HK2.out) (s := t) (by rw [← HM.out]; exact hsm)
          have HX := Lib.hid hx
          have HY := Lib.hid hy
          clear hx hy
          rw [HAT.out t hsn hsm] at HNX HHIT
          have HC : Hid (∀ W, Calls Try.prog 50 #[.agg #[.int .u8 (atV a t).k, .int .i64 (atV a t).n, .string (atV a t).s], .agg #[.int .u8 (atV b t).k, .int .i64 (atV b t).n, .string (atV b t).s]] W fun e w' => e = .returned (.int .i64 (cV (atV a t) (atV b t))) ∧ Kp [] W w') := Lib.hid (fun W => r10Cmp_any _ _ W (HSA.out t hsn) (HSB.out t hsm))
          generalize cV (atV a t) (atV b t) = aw at *
          generalize atV a t = vx at *
          generalize atV b t = vy at *
          go_upto_region 14 with (fail)
          refine wp_region_K (by kernel_rfl) [.val (.slice (some ⟨b1, off1, none⟩) n c0), .val (.int .i64 (t : Int)), .val (.pointer (some ⟨b1, off1 + t * 3, none⟩)), .val (.agg #[.int .u8 vx.k, .int .i64 vx.n, .string vx.s]), .val (.slice (some ⟨b2, off2, none⟩) m c1), .val (.int .i64 (t : Int)), .val (.pointer (some ⟨b2, off2 + t * 3, none⟩)), .val (.agg #[.int .u8 vy.k, .int .i64 vy.n, .string vy.s]), .val (.int .i64 aw), .val (.int .i64 aw)] [[(0, none)], [(12, none)], [(75, some 0), (76, some 1)], [(77, some 2)], [(1, none)], [(12, none)], [(79, some 4), (80, some 5)], [(81, some 6)], [(78, some 3), (82, some 7)], [(83, some 8)]] rfl (by kernel_rfl) ?_ ?_
          · refine ⟨?o0, ?o1, ?o2, ?o3, ?o4, ?o5, ?o6, ?o7, ?o8, ?o9, trivial⟩
            case o0 => intro aR wR hR; replace hR := hR.undrew; intro (h0 : aR.tmps[0]? = some (.slice (some ⟨b1, off1, none⟩) n c0)); exact exec_val (c := .slice (some ⟨b1, off1, none⟩) n c0) (wanted_none rfl) (by go_simp) rfl
            case o1 => intro aR wR hR; replace hR := hR.undrew; intro (h12 : aR.tmps[12]? = some (.int .i64 (t : Int))); exact exec_val (c := .int .i64 (t : Int)) (wanted_none rfl) (by go_simp) rfl
            case o2 => intro aR wR hR; replace hR := hR.undrew; intro v75 h75 e75; replace e75 : v75 = .slice (some ⟨b1, off1, none⟩) n c0 := e75; subst e75; intro v76 h76 e76; replace e76 : v76 = .int .i64 (t : Int) := e76; subst e76; exact exec_val (c := .pointer (some ⟨b1, off1 + t * 3, none⟩)) (wanted_none rfl) (by go_simp) rfl
            case o3 => intro aR wR hR; replace hR := hR.undrew; intro v77 h77 e77; replace e77 : v77 = .pointer (some ⟨b1, off1 + t * 3, none⟩) := e77; subst e77; (obtain ⟨h1, h2, h3⟩ := HX.out wR hR); exact exec_val (c := .agg #[.int .u8 vx.k, .int .i64 vx.n, .string vx.s]) (wanted_none rfl) (by go_simp) rfl
            case o4 => intro aR wR hR; replace hR := hR.undrew; intro (h1 : aR.tmps[1]? = some (.slice (some ⟨b2, off2, none⟩) m c1)); exact exec_val (c := .slice (some ⟨b2, off2, none⟩) m c1) (wanted_none rfl) (by go_simp) rfl
            case o5 => intro aR wR hR; replace hR := hR.undrew; intro (h12 : aR.tmps[12]? = some (.int .i64 (t : Int))); exact exec_val (c := .int .i64 (t : Int)) (wanted_none rfl) (by go_simp) rfl
            case o6 => intro aR wR hR; replace hR := hR.undrew; intro v79 h79 e79; replace e79 : v79 = .slice (some ⟨b2, off2, none⟩) m c1 := e79; subst e79; intro v80 h80 e80; replace e80 : v80 = .int .i64 (t : Int) := e80; subst e80; exact exec_val (c := .pointer (some ⟨b2, off2 + t * 3, none⟩)) (wanted_none rfl) (by go_simp) rfl
            case o7 => intro aR wR hR; replace hR := hR.undrew; intro v81 h81 e81; replace e81 : v81 = .pointer (some ⟨b2, off2 + t * 3, none⟩) := e81; subst e81; (obtain ⟨h1, h2, h3⟩ := HY.out wR hR); exact exec_val (c := .agg #[.int .u8 vy.k, .int .i64 vy.n, .string vy.s]) (wanted_none rfl) (by go_simp) rfl
            case o8 => intro aR wR hR; replace hR := hR.undrew; intro v78 h78 e78; replace e78 : v78 = .agg #[.int .u8 vx.k, .int .i64 vx.n, .string vx.s] := e78; subst e78; intro v82 h82 e82; replace e82 : v82 = .agg #[.int .u8 vy.k, .int .i64 vy.n, .string vy.s] := e82; subst e82; refine exec_call (wanted_none rfl) (by go_simp; exact ⟨rfl, rfl⟩) ?_; refine (HC.out wR).mono ?_; rintro e7 w8 ⟨rfl, kp8⟩; exact ⟨_, rfl, rfl, kp8⟩
            case o9 => intro aR wR hR; replace hR := hR.undrew; intro v83 h83 e83; replace e83 : v83 = .int .i64 aw := e83; subst e83; exact exec_val (c := .int .i64 aw) (wanted_none rfl) (by go_simp) rfl
          · intro vs wR hR hV
            obtain ⟨e0, e1, e2, e3, e4, e5, e6, e7, e8, e9, -⟩ := hV
            replace e0 : vs 0 = .slice (some ⟨b1, off1, none⟩) n c0 := e0
            replace e1 : vs 1 = .int .i64 (t : Int) := e1
            replace e2 : vs 2 = .pointer (some ⟨b1, off1 + t * 3, none⟩) := e2
            replace e3 : vs 3 = .agg #[.int .u8 vx.k, .int .i64 vx.n, .string vx.s] := e3
            replace e4 : vs 4 = .slice (some ⟨b2, off2, none⟩) m c1 := e4
            replace e5 : vs 5 = .int .i64 (t : Int) := e5
            replace e6 : vs 6 = .pointer (some ⟨b2, off2 + t * 3, none⟩) := e6
            replace e7 : vs 7 = .agg #[.int .u8 vy.k, .int .i64 vy.n, .string vy.s] := e7
            replace e8 : vs 8 = .int .i64 aw := e8
            replace e9 : vs 9 = .int .i64 aw := e9
            simp only [putAll, e0, e1, e2, e3, e4, e5, e6, e7, e8, e9, Nat.reduceAdd, Nat.zero_add]
            clear e0 e1 e2 e3 e4 e5 e6 e7 e8 e9
            try simp only [List.setIfInBounds_toArray, List.set_cons_succ, List.set_cons_zero]
            by_cases haz : aw = 0
            · subst haz
              have HZ3 := Lib.hid (HNX.out rfl)
              go_wp2_with fail
              go_roundw
              case rel => exact ⟨t + 1, hsn, by go_num, HZ3, Lib.hid (HK2.out.tr hR)⟩
              case measure => simp [intOf]; omega
            · have hne : ((aw : Int) != 0) = true := by simpa using haz
              have HH : Hid (v = aw) := Lib.hid (HHIT.out haz)
              clear HHIT HNX haz
              go_wp2_with fail
              go_ret
              exact ⟨by rw [HH.out]; rfl, HK2.out.tr hR⟩
        · have HH : Hid (v = 0) := Lib.hid (by rw [HV.out]; exact cmp_none HKZ.out (by rw [HQ2.out]; omega) HZ2.out)
          by_cases h0 : t < qn
          · by_cases h1 : t < n
            · have h2 : ¬ t < m := by omega
              clear hin
              go_wp2_with fail
              go_ret
              exact ⟨by rw [HH.out]; rfl, HK2.out⟩
            · clear hin
              go_wp2_with fail
              go_ret
              exact ⟨by rw [HH.out]; rfl, HK2.out⟩
          · clear hin
            go_wp2_with fail
            go_ret
            exact ⟨by rw [HH.out]; rfl, HK2.out⟩
end Go.Proofs.Ytfacpfogdcefpaa
