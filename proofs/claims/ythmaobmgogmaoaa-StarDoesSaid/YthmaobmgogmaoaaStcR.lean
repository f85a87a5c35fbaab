/-
  The document's star-trees: a row as a record.
-/
import Derived.Test.YthmaobmgogmaoaaStcC
namespace Go.Proofs.Ythmaobmgogmaoaa
open Go.RowKit Go.Shelf
set_option linter.unusedSimpArgs false
set_option linter.unusedVariables false
set_option maxRecDepth 100000

theorem RdI.two {w : World} {ad : Option Addr} {cap : Nat} {hs : List Ih} (h : RdI w ad cap hs) {t i : Nat} (ht : t < hs.length) (hi : i < (rowP (lis hs) t).length) :
    ∃ (b o : Nat) (b2 o2 n rc : Nat), ad = some ⟨b, o, none⟩ ∧ i < n ∧ n ≤ rc ∧ rc ≤ 9223372036854775807 ∧ ∀ W, Kp [] w W → W.cell? ⟨b, o + t, none⟩ = some (.slice (some ⟨b2, o2, none⟩) n rc) ∧ W.cell? ⟨b2, o2 + i, none⟩ = some (.int .i64 (nth (rowP (lis hs) t) i)) := by
  obtain ⟨b, o, ra, n, rc, h1, h2, h3, h4⟩ := h.at' t ht
  obtain ⟨b2, o2, rfl, h6⟩ := h4.2.2 i hi
  exact ⟨b, o, b2, o2, n, rc, h1, by rw [h3]; exact hi, by rw [h3]; exact h4.1, h4.2.1, fun W hW => ⟨hW.cell h2 (by simp), hW.cell h6 (by simp)⟩⟩
/-- What stands while ids are put together. -/
structure RwI (w3 : World) (b7 : Nat) (Z : List Int) (t : Nat) (ia : Option Addr) (ic : Nat) (wr : World) : Prop where
  row : wr.heap[b7]? = some (.cells #[.slice ia t ic, .int .i64 1, .slice none 0 0, .slice none 0 0, .slice none 0 0] 34)
  oi : Own wr w3.heap.size 3 .i64 ia ic (Z.take t)
  kp : Kp [b7] w3 wr
theorem RwI.set {w3 : World} {b7 : Nat} {Z : List Int} {t : Nat} {ia : Option Addr} {ic : Nat} {w w2 : World} (h : RwI w3 b7 Z t ia ic w) {ad' : Option Addr} {cap' : Nat} {z : Int} (hz : Z.take (t + 1) = Z.take t ++ [z]) (ho : Own w2 w3.heap.size 3 .i64 ad' cap' (Z.take t ++ [z])) (hk : Kp (ob ia ic) w w2) :
    RwI w3 b7 Z (t + 1) ad' cap' (w2.setCell ⟨b7, 0, none⟩ (.slice ad' (t + 1) cap')) := by
  have hr := hk.get h.row (ownI_ne h.oi h.row (by decide))
  have kz : Kp [b7] w2 (w2.setCell ⟨b7, 0, none⟩ (.slice ad' (t + 1) cap')) := (Kp.refl [b7] w2).setCell _ _ (by simp)
  exact ⟨by rw [heap_setCell_same w2 b7 0 _ _ _ hr]; rfl, by rw [hz]; exact ho.keep kz (fun b hb hb2 => by simp at hb2; subst hb2; exact ownI_ne ho hr (by decide) hb),
    (h.kp.trans hk (U := [b7]) (fun _ h => .inl h) (fun b hb => .inr (h.oi.ob_ge b hb).1)).trans kz (fun _ h => .inl h) (fun _ h => .inl h)⟩
set_option maxHeartbeats 6400000 in
theorem r19Row_any (sa : Option Addr) (sn sc : Nat) (S : List Ih) (hS : sn = S.length) (ma : Option Addr) (mn mc : Nat) (D : List Ih) (hD : mn = D.length) (i : Nat) (hi1 : ∀ t, t < sn → i < (rowP (lis S) t).length) (hi2 : ∀ t, t < mn → i < (rowP (lis D) t).length) (hb : sn ≤ 1000 ∧ mn ≤ 1000) (w : World) (hs : RdI w sa sc S) (hd : RdI w ma mc D) :
    Calls Try.prog 42 #[.slice sa sn sc, .slice ma mn mc, .int .i64 (i : Int)] w fun e w' => ∃ z : Ra, e = .returned (raV z) ∧ z.pr = rowPR (lis S) (lis D) i ∧ RaOwn w' w.heap.size z ∧ Kp [] w w' := by
  have HSN := Lib.hid hS
  have HDN := Lib.hid hD
  have HSR := Lib.hid hs
  have HDR := Lib.hid hd
  have HI1 := Lib.hid hi1
  have HI2 := Lib.hid hi2
  obtain ⟨hb1, hb2⟩ := hb
  have hsc : sn ≤ sc := by rw [hS]; exact hs.1.1
  have hmc : mn ≤ mc := by rw [hD]; exact hd.1.1
  have hsc2 : sc ≤ 9223372036854775807 := hs.1.2.1
  have hmc2 : mc ≤ 9223372036854775807 := hd.1.2.1
  obtain ⟨ids, hids⟩ : ∃ ids, ids = (lis S).map (fun l => nth l i) := ⟨_, rfl⟩
  obtain ⟨Z, hZ⟩ : ∃ Z : List S3, Z = (lis D).map (fun l => ⟨nth l i, nth l i, nth l i⟩) := ⟨_, rfl⟩
  have HIDS := Lib.hid hids
  have HZ := Lib.hid hZ
  have HIL : Hid (ids.length = sn) := Lib.hid (by rw [hids, List.length_map, lis, List.length_map, hS])
  have HZL : Hid (Z.length = mn) := Lib.hid (by rw [hZ, List.length_map, lis, List.length_map, hD])
  clear hS hD hs hd hi1 hi2 hids hZ
  go_enter Try.func42, Try.ntmps42
  go_upto_region 2 with (refine wpList_store_row rfl 34 _ _ rfl (w.heap.size + 1) #[.slice none 0 0, .int .i64 1, .slice none 0 0, .slice none 0 0, .slice none 0 0] rfl rfl 34 _ (heap_alloc_at rfl) (by kernel_rfl) rfl (by simp [Value.oneCell']) ?_)
  obtain ⟨p6, hp6⟩ : ∃ p, p = w.heap.size := ⟨_, rfl⟩
  obtain ⟨b7, hb7⟩ : ∃ p, p = w.heap.size + 1 := ⟨_, rfl⟩
  obtain ⟨w3, hw3⟩ : ∃ w3, w3 = (w.alloc (Obj.cells #[.slice none 0 0, .int .i64 0, .slice none 0 0, .slice none 0 0, .slice none 0 0] 34)).alloc (Obj.cells #[.slice none 0 0, .int .i64 1, .slice none 0 0, .slice none 0 0, .slice none 0 0] 34) := ⟨_, rfl⟩
  rw [← hw3]
  have k3 : Kp [] w w3 := by rw [hw3]; exact ((Kp.refl [] w).alloc _).alloc _
  have r7 : w3.heap[b7]? = some (.cells #[.slice none 0 0, .int .i64 1, .slice none 0 0, .slice none 0 0, .slice none 0 0] 34) := by rw [hw3, hb7]; exact heap_alloc_at (by simp)
  have r6 : w3.heap[p6]? = some (.cells #[.slice none 0 0, .int .i64 0, .slice none 0 0, .slice none 0 0, .slice none 0 0] 34) := by
    rw [hw3]
    exact cells_alloc (heap_alloc_at hp6)
  rw [← hb7, ← hp6]
  have R6 := Lib.hid r6
  have R7 := Lib.hid r7
  have K3 := Lib.hid k3
  have HPS : Hid (w.heap.size ≤ p6 ∧ w.heap.size ≤ b7 ∧ p6 ≠ b7 ∧ p6 < w3.heap.size ∧ b7 < w3.heap.size) := Lib.hid ⟨by omega, by omega, by omega, lt_of_heap r6, lt_of_heap r7⟩
  clear hw3 hp6 hb7 r6 r7 k3
  go_wp2_with fail
  go_loopw [8] (fun vi wr => ∃ (t : Nat) (ia : Option Addr) (ic : Nat), t ≤ sn ∧ vi = .int .i64 t ∧ Hid (RwI w3 b7 ids t ia ic wr)) (fun vi _ => sn - (intOf vi).toNat)
  case atStart => exact ⟨0, none, 0, Nat.zero_le _, rfl, Lib.hid ⟨R7.out, Own.nil _ _ _ _, Kp.refl _ _⟩⟩
  case round =>
    obtain ⟨t, ia, ic, ht, rfl, HI⟩ := hrel
    obtain ⟨wt, rfl⟩ : ∃ wt : World, wt = wr := ⟨_, rfl⟩
    have hic : ic ≤ 9223372036854775807 := HI.out.oi.rd.2.1
    have HW3 : Hid (∀ W, Kp [b7] w3 W → Kp [] w W) := Lib.hid (fun W hW => K3.out.trans hW (by simp) (fun b hb => .inr (by simp at hb; subst hb; exact HPS.out.2.1)))
    by_cases hlt : t < sn
    · have ht1 : t < S.length := by rw [← HSN.out]; exact hlt
      obtain ⟨b1, o1, b2, o2, n2, rc2, hsa, hn1, hn2, hn3, hx⟩ := HSR.out.two ht1 (HI1.out t hlt)
      subst hsa
      have hzt : ids.take (t + 1) = ids.take t ++ [nth (rowP (lis S) t) i] := take_snoc (by
        rw [HIDS.out, List.getElem?_map, rowP, List.getD_eq_getElem?_getD, List.getElem?_eq_getElem (by simpa [lis] using ht1)]; rfl)
      generalize nth (rowP (lis S) t) i = z at hx hzt
      have HZT := Lib.hid hzt
      have HX2 : Hid (∀ W, Kp [b7] w3 W → W.cell? ⟨b1, o1 + t, none⟩ = some (.slice (some ⟨b2, o2, none⟩) n2 rc2) ∧ W.cell? ⟨b2, o2 + i, none⟩ = some (.int .i64 z)) := Lib.hid (fun W hW => hx W (HW3.out W hW))
      obtain ⟨Zs, hZs⟩ : ∃ l, l = ids.take t := ⟨_, rfl⟩
      have HZN : Hid (t = Zs.length) := Lib.hid (by rw [hZs, List.length_take, HIL.out]; omega)
      have HOS : Hid (Own wt w3.heap.size 3 .i64 ia ic Zs) := Lib.hid (by rw [hZs]; exact HI.out.oi)
      have HZS := Lib.hid hZs
      have HROW := Lib.hid HI.out.row
      have HLT : ∀ y ∈ ob ia ic, y < wt.heap.size := fun y hy => (HOS.out.ob_ge y hy).2
      have HNS : Hid (b7 ∉ ob ia ic) := Lib.hid (ownI_ne HOS.out HROW.out (by decide))
      have HKD : Hid (∀ W, Kp (ob ia ic) wt W → Kp [b7] w3 W) := Lib.hid (fun W hW => HI.out.kp.trans hW (U := [b7]) (fun _ h => .inl h) (fun b hb => .inr (HI.out.oi.ob_ge b hb).1))
      clear ht1 hx hzt hZs
      go_upto_region 5 with (fail)
      refine wp_region_GS (by kernel_rfl) (ob ia ic) [.val (.pointer (some ⟨b7, 0, none⟩)), .val (.slice ia t ic), .val (.slice (some ⟨b1, o1, none⟩) sn sc), .val (.int .i64 (t : Int)), .val (.pointer (some ⟨b1, o1 + t, none⟩)), .val (.slice (some ⟨b2, o2, none⟩) n2 rc2), .val (.int .i64 (i : Int)), .val (.pointer (some ⟨b2, o2 + i, none⟩)), .val (.int .i64 z), .own wt.heap.size HLT 3 .i64 1 [z], .app wt.heap.size HLT 3 .i64 ia ic (t + 1) (Zs ++ [z]), .val (.pointer (some ⟨b7, 0, none⟩))] [[(7, none)], [(17, some 0)], [(0, none)], [(8, none)], [(19, some 2), (20, some 3)], [(21, some 4)], [(2, none)], [(22, some 5), (23, some 6)], [(24, some 7)], [(25, some 8)], [(18, some 1), (26, some 9)], [(7, none)]] [10] (fun m wx => AppI w3.heap.size 3 .i64 ia ic (t + 1) Zs z (decide (0 < m)) wx) 12 rfl (by kernel_rfl) (by kernel_rfl) (by kernel_rfl) (by kernel_rfl) (by kernel_rfl) (by simp) (fun _ _ _ h k => AppI.keep h k (by simp)) (AppI.of HOS.out) ?_ ?_
      · refine (ObG.free rfl ?o0 (ObG.free rfl ?o1 (ObG.free rfl ?o2 (ObG.free rfl ?o3 (ObG.free rfl ?o4 (ObG.free rfl ?o5 (ObG.free rfl ?o6 (ObG.free rfl ?o7 (ObG.free rfl ?o8 (ObG.free rfl ?o9 (ObG.chain 0 rfl ?o10 (ObG.free rfl ?o11 trivial))))))))))))
        case o0 => intro aR wR mR hR hI; replace hR := hR.undrew; intro (h7 : aR.tmps[7]? = some (.pointer (some ⟨b7, 0, none⟩))); exact exec_val (c := .pointer (some ⟨b7, 0, none⟩)) (wanted_none rfl) (by go_simp) rfl
        case o1 => intro aR wR mR hR hI; replace hR := hR.undrew; intro v17 h17 e17; replace e17 : v17 = .pointer (some ⟨b7, 0, none⟩) := e17; subst e17; (have h1 := arow_cell (hR.get HROW.out HNS.out) 0 rfl); exact exec_val (c := .slice ia t ic) (wanted_none rfl) (by go_simp) rfl
        case o2 => intro aR wR mR hR hI; replace hR := hR.undrew; intro (h0 : aR.tmps[0]? = some (.slice (some ⟨b1, o1, none⟩) sn sc)); exact exec_val (c := .slice (some ⟨b1, o1, none⟩) sn sc) (wanted_none rfl) (by go_simp) rfl
        case o3 => intro aR wR mR hR hI; replace hR := hR.undrew; intro (h8 : aR.tmps[8]? = some (.int .i64 (t : Int))); exact exec_val (c := .int .i64 (t : Int)) (wanted_none rfl) (by go_simp) rfl
        case o4 => intro aR wR mR hR hI; replace hR := hR.undrew; intro v19 h19 e19; replace e19 : v19 = .slice (some ⟨b1, o1, none⟩) sn sc := e19; subst e19; intro v20 h20 e20; replace e20 : v20 = .int .i64 (t : Int) := e20; subst e20; exact exec_val (c := .pointer (some ⟨b1, o1 + t, none⟩)) (wanted_none rfl) (by go_simp) rfl
        case o5 => intro aR wR mR hR hI; replace hR := hR.undrew; intro v21 h21 e21; replace e21 : v21 = .pointer (some ⟨b1, o1 + t, none⟩) := e21; subst e21; (have h1 := (HX2.out wR (HKD.out wR hR)).1); exact exec_val (c := .slice (some ⟨b2, o2, none⟩) n2 rc2) (wanted_none rfl) (by go_simp) rfl
        case o6 => intro aR wR mR hR hI; replace hR := hR.undrew; intro (h2 : aR.tmps[2]? = some (.int .i64 (i : Int))); exact exec_val (c := .int .i64 (i : Int)) (wanted_none rfl) (by go_simp) rfl
        case o7 => intro aR wR mR hR hI; replace hR := hR.undrew; intro v22 h22 e22; replace e22 : v22 = .slice (some ⟨b2, o2, none⟩) n2 rc2 := e22; subst e22; intro v23 h23 e23; replace e23 : v23 = .int .i64 (i : Int) := e23; subst e23; exact exec_val (c := .pointer (some ⟨b2, o2 + i, none⟩)) (wanted_none rfl) (by go_simp) rfl
        case o8 => intro aR wR mR hR hI; replace hR := hR.undrew; intro v24 h24 e24; replace e24 : v24 = .pointer (some ⟨b2, o2 + i, none⟩) := e24; subst e24; (have h1 := (HX2.out wR (HKD.out wR hR)).2); exact exec_val (c := .int .i64 z) (wanted_none rfl) (by go_simp) rfl
        case o9 => intro aR wR mR hR hI; replace hR := hR.undrew; intro v25 h25 e25; replace e25 : v25 = .int .i64 z := e25; subst e25; exact exec_do (c := .slice (some ⟨wR.heap.size, 0, none⟩) 1 1) (w' := wR.alloc (.cells #[.int .i64 z] 3)) (wanted_none rfl) (by go_simp) ⟨_, 1, rfl, own_one1 hR.size (heap_alloc_at rfl)⟩ ((Kp.refl [] _).alloc _)
        case o10 => intro aR wR hR hI; replace hR := hR.undrew; intro v18 h18 e18; replace e18 : v18 = .slice ia t ic := e18; subst e18; intro v26 h26 e26; obtain ⟨ad9, cap9, rfl, ho9⟩ := e26; exact exec_app_or (wanted_none rfl) (.tmp 18) (.tmp 26) 23 23 rfl w3.heap.size 8 Try.underlying23 infoInt ia ic t Zs HZN.out [z] (.slice ad9 1 cap9) 1 rfl (by go_simp) (by go_simp) (AppI.off hI) (src_rd ho9.rd Try.underlying23) (by omega) (by omega) (fun w' hr g1 g2 => ⟨.inl ⟨hr, rfl⟩, g2, AppI.room hr g1⟩) (fun ad' cap' w' hc g1 g2 => ⟨.inr ⟨ad', cap', hc, rfl, g1.mono hR.size⟩, g2.wide (by simp), AppI.grow hc ((AppI.off hI).keep0 g2)⟩)
        case o11 => intro aR wR mR hR hI; replace hR := hR.undrew; intro (h7 : aR.tmps[7]? = some (.pointer (some ⟨b7, 0, none⟩))); exact exec_val (c := .pointer (some ⟨b7, 0, none⟩)) (wanted_none rfl) (by go_simp) rfl
      · intro vs wR hR hI hV
        obtain ⟨e0, e1, e2, e3, e4, e5, e6, e7, e8, e9, e10, e11, -⟩ := hV
        replace e0 : vs 0 = .pointer (some ⟨b7, 0, none⟩) := e0
        replace e1 : vs 1 = .slice ia t ic := e1
        replace e2 : vs 2 = .slice (some ⟨b1, o1, none⟩) sn sc := e2
        replace e3 : vs 3 = .int .i64 (t : Int) := e3
        replace e4 : vs 4 = .pointer (some ⟨b1, o1 + t, none⟩) := e4
        replace e5 : vs 5 = .slice (some ⟨b2, o2, none⟩) n2 rc2 := e5
        replace e6 : vs 6 = .int .i64 (i : Int) := e6
        replace e7 : vs 7 = .pointer (some ⟨b2, o2 + i, none⟩) := e7
        replace e8 : vs 8 = .int .i64 z := e8
        replace e11 : vs 11 = .pointer (some ⟨b7, 0, none⟩) := e11
        simp only [putAll, List.take_succ_cons, List.take_zero, List.drop_succ_cons, List.drop_zero, e0, e1, e2, e3, e4, e5, e6, e7, e8, e11, Nat.reduceAdd, Nat.zero_add]
        clear e0 e1 e2 e3 e4 e5 e6 e7 e8 e11
        try simp only [List.setIfInBounds_toArray, List.set_cons_succ, List.set_cons_zero]
        simp only [Nat.reduceAdd, Nat.zero_add] at e10
        obtain ⟨ia', ic', hv10, os', hob10⟩ := app_res (hS := HLT) HI.out.kp.size e10 hI
        rw [hv10]
        have cS := arow_cell (hR.get HROW.out HNS.out) 0 rfl
        have fS := frozen_of_row wR b7 0 _ _ (hR.get HROW.out HNS.out)
        have HI6 := Lib.hid (HI.out.set HZT.out (by rw [← HZS.out]; exact os') hR)
        generalize vs 9 = v9
        clear e10 hv10 os' hob10 hI hR
        clear e9
        clear HLT
        go_wp2_with fail
        go_roundw
        case rel => exact ⟨t + 1, ia', ic', hlt, by go_num, HI6⟩
        case measure => simp [intOf]; omega
    · obtain rfl : sn = t := by omega
      have hall : ids.take sn = ids := List.take_of_length_le (by rw [HIL.out]; exact Nat.le_refl _)
      have hia := HI.out.oi
      rw [hall] at hia
      have G5 := Lib.hid HI.out.row
      have HIA := Lib.hid hia
      have K5 := Lib.hid HI.out.kp
      clear hall hia HI
      obtain ⟨w5, rfl⟩ : ∃ w5 : World, w5 = wt := ⟨_, rfl⟩
      have HW5 : Hid (∀ W, Kp [b7] w5 W → Kp [] w W) := Lib.hid (fun W hW => HW3.out W (K5.out.trans hW (fun _ h => .inl h) (fun _ h => .inl h)))
      go_wp2_with fail
      go_loopw [9] (fun vi wr => ∃ (t : Nat) (qa : Option Addr) (qc : Nat) (ra : Option Addr) (rc : Nat) (ua : Option Addr) (uc : Nat), t ≤ mn ∧ vi = .int .i64 t ∧ Hid (MgI w5 b7 ia sn ic 1 Z t t t qa qc ra rc ua uc wr)) (fun vi _ => mn - (intOf vi).toNat)
      case atStart => exact ⟨0, none, 0, none, 0, none, 0, Nat.zero_le _, rfl, Lib.hid ⟨G5.out, Own.nil _ _ _ _, Own.nil _ _ _ _, Own.nil _ _ _ _, by simp [ob], by simp [ob], by simp [ob], Kp.refl _ _⟩⟩
      case round =>
        obtain ⟨t, qa, qc, ra, rc, ua, uc, ht, rfl, HI⟩ := hrel
        obtain ⟨wt, rfl⟩ : ∃ wt : World, wt = wr := ⟨_, rfl⟩
        have hcb : qc ≤ 9223372036854775807 ∧ rc ≤ 9223372036854775807 ∧ uc ≤ 9223372036854775807 := ⟨HI.out.os.rd.2.1, HI.out.ol.rd.2.1, HI.out.og.rd.2.1⟩
        by_cases hlt : t < mn
        · have ht1 : t < D.length := by rw [← HDN.out]; exact hlt
          obtain ⟨b1, o1, b2, o2, n2, rc2, hma, hn1, hn2, hn3, hx⟩ := HDR.out.two ht1 (HI2.out t hlt)
          subst hma
          have hzt : Z.take (t + 1) = Z.take t ++ [(⟨nth (rowP (lis D) t) i, nth (rowP (lis D) t) i, nth (rowP (lis D) t) i⟩ : S3)] := take_snoc (by
            rw [HZ.out, List.getElem?_map, rowP, List.getD_eq_getElem?_getD, List.getElem?_eq_getElem (by simpa [lis] using ht1)]; rfl)
          generalize nth (rowP (lis D) t) i = z at hx hzt
          have HZ1 : Hid ((Z.take (t + 1)).map (·.s) = (Z.take t).map (·.s) ++ [z]) := Lib.hid (by rw [hzt, List.map_append]; rfl)
          have HZ2 : Hid ((Z.take (t + 1)).map (·.l) = (Z.take t).map (·.l) ++ [z]) := Lib.hid (by rw [hzt, List.map_append]; rfl)
          have HZ3 : Hid ((Z.take (t + 1)).map (·.g) = (Z.take t).map (·.g) ++ [z]) := Lib.hid (by rw [hzt, List.map_append]; rfl)
          have HX2 : Hid (∀ W, Kp [b7] w5 W → W.cell? ⟨b1, o1 + t, none⟩ = some (.slice (some ⟨b2, o2, none⟩) n2 rc2) ∧ W.cell? ⟨b2, o2 + i, none⟩ = some (.int .i64 z)) := Lib.hid (fun W hW => hx W (HW5.out W hW))
          clear ht1 hx hzt
          obtain ⟨Zss, hZs⟩ : ∃ l, l = (Z.take t).map (·.s) := ⟨_, rfl⟩
          have HZNs : Hid (t = Zss.length) := Lib.hid (by rw [hZs, List.length_map, List.length_take, HZL.out]; omega)
          have HZSs := Lib.hid hZs
          clear hZs
          obtain ⟨Zsl, hZs⟩ : ∃ l, l = (Z.take t).map (·.l) := ⟨_, rfl⟩
          have HZNl : Hid (t = Zsl.length) := Lib.hid (by rw [hZs, List.length_map, List.length_take, HZL.out]; omega)
          have HZSl := Lib.hid hZs
          clear hZs
          obtain ⟨Zsg, hZs⟩ : ∃ l, l = (Z.take t).map (·.g) := ⟨_, rfl⟩
          have HZNg : Hid (t = Zsg.length) := Lib.hid (by rw [hZs, List.length_map, List.length_take, HZL.out]; omega)
          have HZSg := Lib.hid hZs
          clear hZs
          have HOSs : Hid (Own wt w5.heap.size 2 .i64 qa qc Zss) := Lib.hid (by rw [HZSs.out]; exact HI.out.os)
          have HROWs := Lib.hid HI.out.row
          have HLTs : ∀ y ∈ ob qa qc, y < wt.heap.size := fun y hy => (HOSs.out.ob_ge y hy).2
          have HNSs : Hid (b7 ∉ ob qa qc) := Lib.hid (ownI_ne HOSs.out HROWs.out (by decide))
          have HKDs : Hid (∀ W, Kp (ob qa qc) wt W → Kp [b7] w5 W) := Lib.hid (fun W hW => HI.out.kp.trans hW (U := [b7]) (fun _ h => .inl h) (fun b hb => .inr (HI.out.os.ob_ge b hb).1))
          go_upto_region 9 with (fail)
          refine wp_region_GS (by kernel_rfl) (ob qa qc) [.val (.pointer (some ⟨b7, 2, none⟩)), .val (.slice qa t qc), .val (.slice (some ⟨b1, o1, none⟩) mn mc), .val (.int .i64 (t : Int)), .val (.pointer (some ⟨b1, o1 + t, none⟩)), .val (.slice (some ⟨b2, o2, none⟩) n2 rc2), .val (.int .i64 (i : Int)), .val (.pointer (some ⟨b2, o2 + i, none⟩)), .val (.int .i64 z), .own wt.heap.size HLTs 2 .i64 1 [z], .app wt.heap.size HLTs 2 .i64 qa qc (t + 1) (Zss ++ [z]), .val (.pointer (some ⟨b7, 2, none⟩))] [[(7, none)], [(35, some 0)], [(1, none)], [(9, none)], [(37, some 2), (38, some 3)], [(39, some 4)], [(2, none)], [(40, some 5), (41, some 6)], [(42, some 7)], [(43, some 8)], [(36, some 1), (44, some 9)], [(7, none)]] [10] (fun m wx => AppI w5.heap.size 2 .i64 qa qc (t + 1) Zss z (decide (0 < m)) wx) 12 rfl (by kernel_rfl) (by kernel_rfl) (by kernel_rfl) (by kernel_rfl) (by kernel_rfl) (by simp) (fun _ _ _ h k => AppI.keep h k (by simp)) (AppI.of HOSs.out) ?_ ?_
          · refine (ObG.free rfl ?o0 (ObG.free rfl ?o1 (ObG.free rfl ?o2 (ObG.free rfl ?o3 (ObG.free rfl ?o4 (ObG.free rfl ?o5 (ObG.free rfl ?o6 (ObG.free rfl ?o7 (ObG.free rfl ?o8 (ObG.free rfl ?o9 (ObG.chain 0 rfl ?o10 (ObG.free rfl ?o11 trivial))))))))))))
            case o0 => intro aR wR mR hR hI; replace hR := hR.undrew; intro (h7 : aR.tmps[7]? = some (.pointer (some ⟨b7, 0, none⟩))); exact exec_val (c := .pointer (some ⟨b7, 2, none⟩)) (wanted_none rfl) (by go_simp) rfl
            case o1 => intro aR wR mR hR hI; replace hR := hR.undrew; intro v35 h35 e35; replace e35 : v35 = .pointer (some ⟨b7, 2, none⟩) := e35; subst e35; (have h1 := arow_cell (hR.get HROWs.out HNSs.out) 2 rfl); exact exec_val (c := .slice qa t qc) (wanted_none rfl) (by go_simp) rfl
            case o2 => intro aR wR mR hR hI; replace hR := hR.undrew; intro (h1 : aR.tmps[1]? = some (.slice (some ⟨b1, o1, none⟩) mn mc)); exact exec_val (c := .slice (some ⟨b1, o1, none⟩) mn mc) (wanted_none rfl) (by go_simp) rfl
            case o3 => intro aR wR mR hR hI; replace hR := hR.undrew; intro (h9 : aR.tmps[9]? = some (.int .i64 (t : Int))); exact exec_val (c := .int .i64 (t : Int)) (wanted_none rfl) (by go_simp) rfl
            case o4 => intro aR wR mR hR hI; replace hR := hR.undrew; intro v37 h37 e37; replace e37 : v37 = .slice (some ⟨b1, o1, none⟩) mn mc := e37; subst e37; intro v38 h38 e38; replace e38 : v38 = .int .i64 (t : Int) := e38; subst e38; exact exec_val (c := .pointer (some ⟨b1, o1 + t, none⟩)) (wanted_none rfl) (by go_simp) rfl
            case o5 => intro aR wR mR hR hI; replace hR := hR.undrew; intro v39 h39 e39; replace e39 : v39 = .pointer (some ⟨b1, o1 + t, none⟩) := e39; subst e39; (have h1 := (HX2.out wR (HKDs.out wR hR)).1); exact exec_val (c := .slice (some ⟨b2, o2, none⟩) n2 rc2) (wanted_none rfl) (by go_simp) rfl
            case o6 => intro aR wR mR hR hI; replace hR := hR.undrew; intro (h2 : aR.tmps[2]? = some (.int .i64 (i : Int))); exact exec_val (c := .int .i64 (i : Int)) (wanted_none rfl) (by go_simp) rfl
            case o7 => intro aR wR mR hR hI; replace hR := hR.undrew; intro v40 h40 e40; replace e40 : v40 = .slice (some ⟨b2, o2, none⟩) n2 rc2 := e40; subst e40; intro v41 h41 e41; replace e41 : v41 = .int .i64 (i : Int) := e41; subst e41; exact exec_val (c := .pointer (some ⟨b2, o2 + i, none⟩)) (wanted_none rfl) (by go_simp) rfl
            case o8 => intro aR wR mR hR hI; replace hR := hR.undrew; intro v42 h42 e42; replace e42 : v42 = .pointer (some ⟨b2, o2 + i, none⟩) := e42; subst e42; (have h1 := (HX2.out wR (HKDs.out wR hR)).2); exact exec_val (c := .int .i64 z) (wanted_none rfl) (by go_simp) rfl
            case o9 => intro aR wR mR hR hI; replace hR := hR.undrew; intro v43 h43 e43; replace e43 : v43 = .int .i64 z := e43; subst e43; exact exec_do (c := .slice (some ⟨wR.heap.size, 0, none⟩) 1 1) (w' := wR.alloc (.cells #[.int .i64 z] 2)) (wanted_none rfl) (by go_simp) ⟨_, 1, rfl, own_one1 hR.size (heap_alloc_at rfl)⟩ ((Kp.refl [] _).alloc _)
            case o10 => intro aR wR hR hI; replace hR := hR.undrew; intro v36 h36 e36; replace e36 : v36 = .slice qa t qc := e36; subst e36; intro v44 h44 e44; obtain ⟨ad9, cap9, rfl, ho9⟩ := e44; exact exec_app_or (wanted_none rfl) (.tmp 36) (.tmp 44) 32 32 rfl w5.heap.size 8 Try.underlying32 infoI64 qa qc t Zss HZNs.out [z] (.slice ad9 1 cap9) 1 rfl (by go_simp) (by go_simp) (AppI.off hI) (src_rd ho9.rd Try.underlying32) (by omega) (by omega) (fun w' hr g1 g2 => ⟨.inl ⟨hr, rfl⟩, g2, AppI.room hr g1⟩) (fun ad' cap' w' hc g1 g2 => ⟨.inr ⟨ad', cap', hc, rfl, g1.mono hR.size⟩, g2.wide (by simp), AppI.grow hc ((AppI.off hI).keep0 g2)⟩)
            case o11 => intro aR wR mR hR hI; replace hR := hR.undrew; intro (h7 : aR.tmps[7]? = some (.pointer (some ⟨b7, 0, none⟩))); exact exec_val (c := .pointer (some ⟨b7, 2, none⟩)) (wanted_none rfl) (by go_simp) rfl
          · intro vs wR hR hI hV
            obtain ⟨e0, e1, e2, e3, e4, e5, e6, e7, e8, e9, e10, e11, -⟩ := hV
            replace e0 : vs 0 = .pointer (some ⟨b7, 2, none⟩) := e0
            replace e1 : vs 1 = .slice qa t qc := e1
            replace e2 : vs 2 = .slice (some ⟨b1, o1, none⟩) mn mc := e2
            replace e3 : vs 3 = .int .i64 (t : Int) := e3
            replace e4 : vs 4 = .pointer (some ⟨b1, o1 + t, none⟩) := e4
            replace e5 : vs 5 = .slice (some ⟨b2, o2, none⟩) n2 rc2 := e5
            replace e6 : vs 6 = .int .i64 (i : Int) := e6
            replace e7 : vs 7 = .pointer (some ⟨b2, o2 + i, none⟩) := e7
            replace e8 : vs 8 = .int .i64 z := e8
            replace e11 : vs 11 = .pointer (some ⟨b7, 2, none⟩) := e11
            simp only [putAll, List.take_succ_cons, List.take_zero, List.drop_succ_cons, List.drop_zero, e0, e1, e2, e3, e4, e5, e6, e7, e8, e11, Nat.reduceAdd, Nat.zero_add]
            clear e0 e1 e2 e3 e4 e5 e6 e7 e8 e11
            try simp only [List.setIfInBounds_toArray, List.set_cons_succ, List.set_cons_zero]
            simp only [Nat.reduceAdd, Nat.zero_add] at e10
            obtain ⟨qa', qc', hv10, os', hob10⟩ := app_res (hS := HLTs) HI.out.kp.size e10 hI
            rw [hv10]
            have cS := arow_cell (hR.get HROWs.out HNSs.out) 2 rfl
            have fS := frozen_of_row wR b7 2 _ _ (hR.get HROWs.out HNSs.out)
            have HI6 := Lib.hid (HI.out.setS HZ1.out (by rw [← HZSs.out]; exact os') hR hob10)
            generalize vs 9 = v9s
            clear e10 hv10 os' hob10 hI hR
            clear e9
            clear HLTs
            go_upto_region 10 with (fail)
            generalize wR.setCell ⟨b7, 2, none⟩ (.slice qa' (t + 1) qc') = w6 at *
            clear cS fS
            have HOSl : Hid (Own w6 w5.heap.size 2 .i64 ra rc Zsl) := Lib.hid (by rw [HZSl.out]; exact HI6.out.ol)
            have HROWl := Lib.hid HI6.out.row
            have HLTl : ∀ y ∈ ob ra rc, y < w6.heap.size := fun y hy => (HOSl.out.ob_ge y hy).2
            have HNSl : Hid (b7 ∉ ob ra rc) := Lib.hid (ownI_ne HOSl.out HROWl.out (by decide))
            have HKDl : Hid (∀ W, Kp (ob ra rc) w6 W → Kp [b7] w5 W) := Lib.hid (fun W hW => HI6.out.kp.trans hW (U := [b7]) (fun _ h => .inl h) (fun b hb => .inr (HI6.out.ol.ob_ge b hb).1))
            go_upto_region 10 with (fail)
            refine wp_region_GS (by kernel_rfl) (ob ra rc) [.val (.pointer (some ⟨b7, 3, none⟩)), .val (.slice ra t rc), .val (.slice (some ⟨b1, o1, none⟩) mn mc), .val (.int .i64 (t : Int)), .val (.pointer (some ⟨b1, o1 + t, none⟩)), .val (.slice (some ⟨b2, o2, none⟩) n2 rc2), .val (.int .i64 (i : Int)), .val (.pointer (some ⟨b2, o2 + i, none⟩)), .val (.int .i64 z), .own w6.heap.size HLTl 2 .i64 1 [z], .app w6.heap.size HLTl 2 .i64 ra rc (t + 1) (Zsl ++ [z]), .val (.pointer (some ⟨b7, 3, none⟩))] [[(7, none)], [(47, some 0)], [(1, none)], [(9, none)], [(49, some 2), (50, some 3)], [(51, some 4)], [(2, none)], [(52, some 5), (53, some 6)], [(54, some 7)], [(55, some 8)], [(48, some 1), (56, some 9)], [(7, none)]] [10] (fun m wx => AppI w5.heap.size 2 .i64 ra rc (t + 1) Zsl z (decide (0 < m)) wx) 12 rfl (by kernel_rfl) (by kernel_rfl) (by kernel_rfl) (by kernel_rfl) (by kernel_rfl) (by simp) (fun _ _ _ h k => AppI.keep h k (by simp)) (AppI.of HOSl.out) ?_ ?_
            · refine (ObG.free rfl ?o0 (ObG.free rfl ?o1 (ObG.free rfl ?o2 (ObG.free rfl ?o3 (ObG.free rfl ?o4 (ObG.free rfl ?o5 (ObG.free rfl ?o6 (ObG.free rfl ?o7 (ObG.free rfl ?o8 (ObG.free rfl ?o9 (ObG.chain 0 rfl ?o10 (ObG.free rfl ?o11 trivial))))))))))))
              case o0 => intro aR wR mR hR hI; replace hR := hR.undrew; intro (h7 : aR.tmps[7]? = some (.pointer (some ⟨b7, 0, none⟩))); exact exec_val (c := .pointer (some ⟨b7, 3, none⟩)) (wanted_none rfl) (by go_simp) rfl
              case o1 => intro aR wR mR hR hI; replace hR := hR.undrew; intro v47 h47 e47; replace e47 : v47 = .pointer (some ⟨b7, 3, none⟩) := e47; subst e47; (have h1 := arow_cell (hR.get HROWl.out HNSl.out) 3 rfl); exact exec_val (c := .slice ra t rc) (wanted_none rfl) (by go_simp) rfl
              case o2 => intro aR wR mR hR hI; replace hR := hR.undrew; intro (h1 : aR.tmps[1]? = some (.slice (some ⟨b1, o1, none⟩) mn mc)); exact exec_val (c := .slice (some ⟨b1, o1, none⟩) mn mc) (wanted_none rfl) (by go_simp) rfl
              case o3 => intro aR wR mR hR hI; replace hR := hR.undrew; intro (h9 : aR.tmps[9]? = some (.int .i64 (t : Int))); exact exec_val (c := .int .i64 (t : Int)) (wanted_none rfl) (by go_simp) rfl
              case o4 => intro aR wR mR hR hI; replace hR := hR.undrew; intro v49 h49 e49; replace e49 : v49 = .slice (some ⟨b1, o1, none⟩) mn mc := e49; subst e49; intro v50 h50 e50; replace e50 : v50 = .int .i64 (t : Int) := e50; subst e50; exact exec_val (c := .pointer (some ⟨b1, o1 + t, none⟩)) (wanted_none rfl) (by go_simp) rfl
              case o5 => intro aR wR mR hR hI; replace hR := hR.undrew; intro v51 h51 e51; replace e51 : v51 = .pointer (some ⟨b1, o1 + t, none⟩) := e51; subst e51; (have h1 := (HX2.out wR (HKDl.out wR hR)).1); exact exec_val (c := .slice (some ⟨b2, o2, none⟩) n2 rc2) (wanted_none rfl) (by go_simp) rfl
              case o6 => intro aR wR mR hR hI; replace hR := hR.undrew; intro (h2 : aR.tmps[2]? = some (.int .i64 (i : Int))); exact exec_val (c := .int .i64 (i : Int)) (wanted_none rfl) (by go_simp) rfl
              case o7 => intro aR wR mR hR hI; replace hR := hR.undrew; intro v52 h52 e52; replace e52 : v52 = .slice (some ⟨b2, o2, none⟩) n2 rc2 := e52; subst e52; intro v53 h53 e53; replace e53 : v53 = .int .i64 (i : Int) := e53; subst e53; exact exec_val (c := .pointer (some ⟨b2, o2 + i, none⟩)) (wanted_none rfl) (by go_simp) rfl
              case o8 => intro aR wR mR hR hI; replace hR := hR.undrew; intro v54 h54 e54; replace e54 : v54 = .pointer (some ⟨b2, o2 + i, none⟩) := e54; subst e54; (have h1 := (HX2.out wR (HKDl.out wR hR)).2); exact exec_val (c := .int .i64 z) (wanted_none rfl) (by go_simp) rfl
              case o9 => intro aR wR mR hR hI; replace hR := hR.undrew; intro v55 h55 e55; replace e55 : v55 = .int .i64 z := e55; subst e55; exact exec_do (c := .slice (some ⟨wR.heap.size, 0, none⟩) 1 1) (w' := wR.alloc (.cells #[.int .i64 z] 2)) (wanted_none rfl) (by go_simp) ⟨_, 1, rfl, own_one1 hR.size (heap_alloc_at rfl)⟩ ((Kp.refl [] _).alloc _)
              case o10 => intro aR wR hR hI; replace hR := hR.undrew; intro v48 h48 e48; replace e48 : v48 = .slice ra t rc := e48; subst e48; intro v56 h56 e56; obtain ⟨ad9, cap9, rfl, ho9⟩ := e56; exact exec_app_or (wanted_none rfl) (.tmp 48) (.tmp 56) 32 32 rfl w5.heap.size 8 Try.underlying32 infoI64 ra rc t Zsl HZNl.out [z] (.slice ad9 1 cap9) 1 rfl (by go_simp) (by go_simp) (AppI.off hI) (src_rd ho9.rd Try.underlying32) (by omega) (by omega) (fun w' hr g1 g2 => ⟨.inl ⟨hr, rfl⟩, g2, AppI.room hr g1⟩) (fun ad' cap' w' hc g1 g2 => ⟨.inr ⟨ad', cap', hc, rfl, g1.mono hR.size⟩, g2.wide (by simp), AppI.grow hc ((AppI.off hI).keep0 g2)⟩)
              case o11 => intro aR wR mR hR hI; replace hR := hR.undrew; intro (h7 : aR.tmps[7]? = some (.pointer (some ⟨b7, 0, none⟩))); exact exec_val (c := .pointer (some ⟨b7, 3, none⟩)) (wanted_none rfl) (by go_simp) rfl
            · intro vs wR hR hI hV
              obtain ⟨e0, e1, e2, e3, e4, e5, e6, e7, e8, e9, e10, e11, -⟩ := hV
              replace e0 : vs 0 = .pointer (some ⟨b7, 3, none⟩) := e0
              replace e1 : vs 1 = .slice ra t rc := e1
              replace e2 : vs 2 = .slice (some ⟨b1, o1, none⟩) mn mc := e2
              replace e3 : vs 3 = .int .i64 (t : Int) := e3
              replace e4 : vs 4 = .pointer (some ⟨b1, o1 + t, none⟩) := e4
              replace e5 : vs 5 = .slice (some ⟨b2, o2, none⟩) n2 rc2 := e5
              replace e6 : vs 6 = .int .i64 (i : Int) := e6
              replace e7 : vs 7 = .pointer (some ⟨b2, o2 + i, none⟩) := e7
              replace e8 : vs 8 = .int .i64 z := e8
              replace e11 : vs 11 = .pointer (some ⟨b7, 3, none⟩) := e11
              simp only [putAll, List.take_succ_cons, List.take_zero, List.drop_succ_cons, List.drop_zero, e0, e1, e2, e3, e4, e5, e6, e7, e8, e11, Nat.reduceAdd, Nat.zero_add]
              clear e0 e1 e2 e3 e4 e5 e6 e7 e8 e11
              try simp only [List.setIfInBounds_toArray, List.set_cons_succ, List.set_cons_zero]
              simp only [Nat.reduceAdd, Nat.zero_add] at e10
              obtain ⟨ra', rc', hv10, os', hob10⟩ := app_res (hS := HLTl) HI6.out.kp.size e10 hI
              rw [hv10]
              have cS := arow_cell (hR.get HROWl.out HNSl.out) 3 rfl
              have fS := frozen_of_row wR b7 3 _ _ (hR.get HROWl.out HNSl.out)
              have HI7 := Lib.hid (HI6.out.setL HZ2.out (by rw [← HZSl.out]; exact os') hR hob10)
              generalize vs 9 = v9l
              clear e10 hv10 os' hob10 hI hR
              clear e9
              clear HLTl
              go_upto_region 11 with (fail)
              generalize wR.setCell ⟨b7, 3, none⟩ (.slice ra' (t + 1) rc') = w7 at *
              clear cS fS
              have HOSg : Hid (Own w7 w5.heap.size 2 .i64 ua uc Zsg) := Lib.hid (by rw [HZSg.out]; exact HI7.out.og)
              have HROWg := Lib.hid HI7.out.row
              have HLTg : ∀ y ∈ ob ua uc, y < w7.heap.size := fun y hy => (HOSg.out.ob_ge y hy).2
              have HNSg : Hid (b7 ∉ ob ua uc) := Lib.hid (ownI_ne HOSg.out HROWg.out (by decide))
              have HKDg : Hid (∀ W, Kp (ob ua uc) w7 W → Kp [b7] w5 W) := Lib.hid (fun W hW => HI7.out.kp.trans hW (U := [b7]) (fun _ h => .inl h) (fun b hb => .inr (HI7.out.og.ob_ge b hb).1))
              go_upto_region 11 with (fail)
              refine wp_region_GS (by kernel_rfl) (ob ua uc) [.val (.pointer (some ⟨b7, 4, none⟩)), .val (.slice ua t uc), .val (.slice (some ⟨b1, o1, none⟩) mn mc), .val (.int .i64 (t : Int)), .val (.pointer (some ⟨b1, o1 + t, none⟩)), .val (.slice (some ⟨b2, o2, none⟩) n2 rc2), .val (.int .i64 (i : Int)), .val (.pointer (some ⟨b2, o2 + i, none⟩)), .val (.int .i64 z), .own w7.heap.size HLTg 2 .i64 1 [z], .app w7.heap.size HLTg 2 .i64 ua uc (t + 1) (Zsg ++ [z]), .val (.pointer (some ⟨b7, 4, none⟩))] [[(7, none)], [(59, some 0)], [(1, none)], [(9, none)], [(61, some 2), (62, some 3)], [(63, some 4)], [(2, none)], [(64, some 5), (65, some 6)], [(66, some 7)], [(67, some 8)], [(60, some 1), (68, some 9)], [(7, none)]] [10] (fun m wx => AppI w5.heap.size 2 .i64 ua uc (t + 1) Zsg z (decide (0 < m)) wx) 12 rfl (by kernel_rfl) (by kernel_rfl) (by kernel_rfl) (by kernel_rfl) (by kernel_rfl) (by simp) (fun _ _ _ h k => AppI.keep h k (by simp)) (AppI.of HOSg.out) ?_ ?_
              · refine (ObG.free rfl ?o0 (ObG.free rfl ?o1 (ObG.free rfl ?o2 (ObG.free rfl ?o3 (ObG.free rfl ?o4 (ObG.free rfl ?o5 (ObG.free rfl ?o6 (ObG.free rfl ?o7 (ObG.free rfl ?o8 (ObG.free rfl ?o9 (ObG.chain 0 rfl ?o10 (ObG.free rfl ?o11 trivial))))))))))))
                case o0 => intro aR wR mR hR hI; replace hR := hR.undrew; intro (h7 : aR.tmps[7]? = some (.pointer (some ⟨b7, 0, none⟩))); exact exec_val (c := .pointer (some ⟨b7, 4, none⟩)) (wanted_none rfl) (by go_simp) rfl
                case o1 => intro aR wR mR hR hI; replace hR := hR.undrew; intro v59 h59 e59; replace e59 : v59 = .pointer (some ⟨b7, 4, none⟩) := e59; subst e59; (have h1 := arow_cell (hR.get HROWg.out HNSg.out) 4 rfl); exact exec_val (c := .slice ua t uc) (wanted_none rfl) (by go_simp) rfl
                case o2 => intro aR wR mR hR hI; replace hR := hR.undrew; intro (h1 : aR.tmps[1]? = some (.slice (some ⟨b1, o1, none⟩) mn mc)); exact exec_val (c := .slice (some ⟨b1, o1, none⟩) mn mc) (wanted_none rfl) (by go_simp) rfl
                case o3 => intro aR wR mR hR hI; replace hR := hR.undrew; intro (h9 : aR.tmps[9]? = some (.int .i64 (t : Int))); exact exec_val (c := .int .i64 (t : Int)) (wanted_none rfl) (by go_simp) rfl
                case o4 => intro aR wR mR hR hI; replace hR := hR.undrew; intro v61 h61 e61; replace e61 : v61 = .slice (some ⟨b1, o1, none⟩) mn mc := e61; subst e61; intro v62 h62 e62; replace e62 : v62 = .int .i64 (t : Int) := e62; subst e62; exact exec_val (c := .pointer (some ⟨b1, o1 + t, none⟩)) (wanted_none rfl) (by go_simp) rfl
                case o5 => intro aR wR mR hR hI; replace hR := hR.undrew; intro v63 h63 e63; replace e63 : v63 = .pointer (some ⟨b1, o1 + t, none⟩) := e63; subst e63; (have h1 := (HX2.out wR (HKDg.out wR hR)).1); exact exec_val (c := .slice (some ⟨b2, o2, none⟩) n2 rc2) (wanted_none rfl) (by go_simp) rfl
                case o6 => intro aR wR mR hR hI; replace hR := hR.undrew; intro (h2 : aR.tmps[2]? = some (.int .i64 (i : Int))); exact exec_val (c := .int .i64 (i : Int)) (wanted_none rfl) (by go_simp) rfl
                case o7 => intro aR wR mR hR hI; replace hR := hR.undrew; intro v64 h64 e64; replace e64 : v64 = .slice (some ⟨b2, o2, none⟩) n2 rc2 := e64; subst e64; intro v65 h65 e65; replace e65 : v65 = .int .i64 (i : Int) := e65; subst e65; exact exec_val (c := .pointer (some ⟨b2, o2 + i, none⟩)) (wanted_none rfl) (by go_simp) rfl
                case o8 => intro aR wR mR hR hI; replace hR := hR.undrew; intro v66 h66 e66; replace e66 : v66 = .pointer (some ⟨b2, o2 + i, none⟩) := e66; subst e66; (have h1 := (HX2.out wR (HKDg.out wR hR)).2); exact exec_val (c := .int .i64 z) (wanted_none rfl) (by go_simp) rfl
                case o9 => intro aR wR mR hR hI; replace hR := hR.undrew; intro v67 h67 e67; replace e67 : v67 = .int .i64 z := e67; subst e67; exact exec_do (c := .slice (some ⟨wR.heap.size, 0, none⟩) 1 1) (w' := wR.alloc (.cells #[.int .i64 z] 2)) (wanted_none rfl) (by go_simp) ⟨_, 1, rfl, own_one1 hR.size (heap_alloc_at rfl)⟩ ((Kp.refl [] _).alloc _)
                case o10 => intro aR wR hR hI; replace hR := hR.undrew; intro v60 h60 e60; replace e60 : v60 = .slice ua t uc := e60; subst e60; intro v68 h68 e68; obtain ⟨ad9, cap9, rfl, ho9⟩ := e68; exact exec_app_or (wanted_none rfl) (.tmp 60) (.tmp 68) 32 32 rfl w5.heap.size 8 Try.underlying32 infoI64 ua uc t Zsg HZNg.out [z] (.slice ad9 1 cap9) 1 rfl (by go_simp) (by go_simp) (AppI.off hI) (src_rd ho9.rd Try.underlying32) (by omega) (by omega) (fun w' hr g1 g2 => ⟨.inl ⟨hr, rfl⟩, g2, AppI.room hr g1⟩) (fun ad' cap' w' hc g1 g2 => ⟨.inr ⟨ad', cap', hc, rfl, g1.mono hR.size⟩, g2.wide (by simp), AppI.grow hc ((AppI.off hI).keep0 g2)⟩)
                case o11 => intro aR wR mR hR hI; replace hR := hR.undrew; intro (h7 : aR.tmps[7]? = some (.pointer (some ⟨b7, 0, none⟩))); exact exec_val (c := .pointer (some ⟨b7, 4, none⟩)) (wanted_none rfl) (by go_simp) rfl
              · intro vs wR hR hI hV
                obtain ⟨e0, e1, e2, e3, e4, e5, e6, e7, e8, e9, e10, e11, -⟩ := hV
                replace e0 : vs 0 = .pointer (some ⟨b7, 4, none⟩) := e0
                replace e1 : vs 1 = .slice ua t uc := e1
                replace e2 : vs 2 = .slice (some ⟨b1, o1, none⟩) mn mc := e2
                replace e3 : vs 3 = .int .i64 (t : Int) := e3
                replace e4 : vs 4 = .pointer (some ⟨b1, o1 + t, none⟩) := e4
                replace e5 : vs 5 = .slice (some ⟨b2, o2, none⟩) n2 rc2 := e5
                replace e6 : vs 6 = .int .i64 (i : Int) := e6
                replace e7 : vs 7 = .pointer (some ⟨b2, o2 + i, none⟩) := e7
                replace e8 : vs 8 = .int .i64 z := e8
                replace e11 : vs 11 = .pointer (some ⟨b7, 4, none⟩) := e11
                simp only [putAll, List.take_succ_cons, List.take_zero, List.drop_succ_cons, List.drop_zero, e0, e1, e2, e3, e4, e5, e6, e7, e8, e11, Nat.reduceAdd, Nat.zero_add]
                clear e0 e1 e2 e3 e4 e5 e6 e7 e8 e11
                try simp only [List.setIfInBounds_toArray, List.set_cons_succ, List.set_cons_zero]
                simp only [Nat.reduceAdd, Nat.zero_add] at e10
                obtain ⟨ua', uc', hv10, os', hob10⟩ := app_res (hS := HLTg) HI7.out.kp.size e10 hI
                rw [hv10]
                have cS := arow_cell (hR.get HROWg.out HNSg.out) 4 rfl
                have fS := frozen_of_row wR b7 4 _ _ (hR.get HROWg.out HNSg.out)
                have HI8 := Lib.hid (HI7.out.setG HZ3.out (by rw [← HZSg.out]; exact os') hR hob10)
                generalize vs 9 = v9g
                clear e10 hv10 os' hob10 hI hR
                clear e9
                clear HLTg
                go_wp2_with fail
                go_roundw
                case rel => exact ⟨t + 1, qa', qc', ra', rc', ua', uc', hlt, by go_num, HI8⟩
                case measure => simp [intOf]; omega
        · obtain rfl : mn = t := by omega
          have HRF := Lib.hid HI.out.row
          have hall : Z.take mn = Z := List.take_of_length_le (by rw [HZL.out]; exact Nat.le_refl _)
          have hw3 := K3.out.size
          have hw5 : w.heap.size ≤ w5.heap.size := (HW5.out w5 (Kp.refl _ _)).size
          have HR6 : Hid (wt.heap[p6]? = some (.cells #[.slice none 0 0, .int .i64 0, .slice none 0 0, .slice none 0 0, .slice none 0 0] 34)) := Lib.hid (HI.out.kp.get (K5.out.get R6.out (by simp; exact HPS.out.2.2.1)) (by simp; exact HPS.out.2.2.1))
          have HOW : Hid (RaOwn wt w.heap.size ⟨ids, ia, ic, 1, Z, qa, qc, ra, rc, ua, uc⟩) := Lib.hid ⟨((HIA.out.keep HI.out.kp (fun b hb hb2 => by simp at hb2; subst hb2; exact ownI_ne HIA.out G5.out (by decide) hb))).mono hw3,
            by have := HI.out.os; rw [hall] at this; exact this.mono hw5, by have := HI.out.ol; rw [hall] at this; exact this.mono hw5, by have := HI.out.og; rw [hall] at this; exact this.mono hw5⟩
          have HKF := Lib.hid (HW5.out wt HI.out.kp)
          clear hall hw5 hw3
          go_wp2_with first
            | (refine wpList_load_row rfl 34 _ rfl b7 rfl 34 #[.slice ia sn ic, .int .i64 1, .slice qa mn qc, .slice ra mn rc, .slice ua mn uc] (0, 0) _ HRF.out Try.underlying34 rfl (by kernel_rfl) ?_)
            | (refine wpList_store_row rfl 34 _ _ rfl p6 #[.slice ia sn ic, .int .i64 1, .slice qa mn qc, .slice ra mn rc, .slice ua mn uc] rfl rfl 34 _ HR6.out (by kernel_rfl) rfl (by simp [Value.oneCell']) ?_)
          refine bodyPost_ret (v := .agg #[.slice ia sn ic, .int .i64 1, .slice qa mn qc, .slice ra mn rc, .slice ua mn uc]) (results_cell_row Try.results42 _ _ p6 34 #[.slice ia sn ic, .int .i64 1, .slice qa mn qc, .slice ra mn rc, .slice ua mn uc] (0, 0) _ rfl (setRow_heap _ p6 _ _ _ _ HR6.out) Try.underlying34 rfl (by kernel_rfl)) rfl ?_
          refine ⟨⟨ids, ia, ic, 1, Z, qa, qc, ra, rc, ua, uc⟩, by
            show Ending.returned (Value.agg #[.slice ia sn ic, .int .i64 1, .slice qa mn qc, .slice ra mn rc, .slice ua mn uc]) = .returned (.agg #[.slice ia ids.length ic, .int .i64 1, .slice qa Z.length qc, .slice ra Z.length rc, .slice ua Z.length uc])
            rw [HIL.out, HZL.out], ?_, ?_, HKF.out.setRowF _ _ (.inr HPS.out.1)⟩
          · show (⟨ids, 1, Z⟩ : PR) = rowPR (lis S) (lis D) i
            rw [HIDS.out, HZ.out]; rfl
          · exact HOW.out.keep (S := [p6]) ((Kp.refl [p6] wt).setRowF _ _ (.inl (by simp))) (fun b hb => by simp at hb; subst hb; exact .inr ⟨_, _, HR6.out⟩)
theorem rowsP_take (S M : List (List Int)) {i : Nat} (h : i < (S.getD 0 []).length) : (rowsP S M).take (i + 1) = (rowsP S M).take i ++ [rowPR S M i] := take_snoc (by
  unfold rowsP
  rw [List.getElem?_map, List.getElem?_range h]; rfl)
end Go.Proofs.Ythmaobmgogmaoaa
