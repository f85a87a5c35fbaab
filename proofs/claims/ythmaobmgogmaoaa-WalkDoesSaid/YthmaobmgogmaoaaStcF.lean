/-
  The document's star-trees: a row as a record; whether an id may be.
  The document's questions: a record with a star in all columns that are not grouped by.
  The document's questions: rows whose ids may be, put together by the columns that are grouped by.
-/
import Derived.Test.YthmaobmgogmaoaaStcC
import Derived.Test.YthmaobmgogmaoaaStbK
namespace Go.Proofs.Ythmaobmgogmaoaa
open Go.RowKit Go.Shelf
set_option linter.unusedSimpArgs false
set_option linter.unusedVariables false
set_option maxRecDepth 100000

theorem RdI.two {w : World} {ad : Option Addr} {cap : Nat} {hs : List Ih} (h : RdI w ad cap hs) {t i : Nat} (ht : t < hs.length) (hi : i < (rowP (lis hs) t).length) :
    ∃ (b o : Nat) (b2 o2 n rc : Nat), ad = some ⟨b, o, none⟩ ∧ i < n ∧ n ≤ rc ∧ rc ≤ 9223372036854775807 ∧ ∀ W, Kp [] w W → W.cell? ⟨b, o + t, none⟩ = some (.slice (some ⟨b2, o2, none⟩) n rc) ∧ W.cell? ⟨b2, o2 + i, none⟩ = some (.int .i64 (nth (rowP (lis hs) t) i)) := by
  obtain ⟨b, o, ra, n, rc, h1, h2, h3, h4⟩ := h.at' t ht
  obtain ⟨b2, o2, rfl, h6⟩ := h4.2.2 i hi
  exact ⟨b, o, b2, o2, n, rc, h1, by rw [h3]; exact hi, by rw [h3]; exact h4.1, h4.2.1, fun W hW => ⟨hW.cell h2 (by simp), hW.cell h6 (by simp)⟩⟩
/-- What stands while ids are put together. -/
structure RwI (w3 : World) (b7 : Nat) (Z : List Int) (t : Nat) (ia : Option Addr) (ic : Nat) (wr : World) : Prop where
  row : wr.heap[b7]? = some (.cells #[.slice ia t ic, .int .i64 1, .slice none 0 0, .slice none 0 0, .slice none 0 0] 34)
  oi : Own wr w3.heap.size 3 .i64 ia ic (Z.take t)
  kp : Kp [b7] w3 wr
theorem RwI.set {w3 : World} {b7 : Nat} {Z : List Int} {t : Nat} {ia : Option Addr} {ic : Nat} {w w2 : World} (h : RwI w3 b7 Z t ia ic w) {ad' : Option Addr} {cap' : Nat} {z : Int} (hz : Z.take (t + 1) = Z.take t ++ [z]) (ho : Own w2 w3.heap.size 3 .i64 ad' cap' (Z.take t ++ [z])) (hk : Kp (ob ia ic) w w2) :
    RwI w3 b7 Z (t + 1) ad' cap' (w2.setCell ⟨b7, 0, none⟩ (.slice ad' (t + 1) cap')) := by
  have hr := hk.get h.row (ownI_ne h.oi h.row (by decide))
  have kz : Kp [b7] w2 (w2.setCell ⟨b7, 0, none⟩ (.slice ad' (t + 1) cap')) := (Kp.refl [b7] w2).setCell _ _ (by simp)
  exact ⟨by rw [heap_setCell_same w2 b7 0 _ _ _ hr]; rfl, by rw [hz]; exact ho.keep kz (fun b hb hb2 => by simp at hb2; subst hb2; exact ownI_ne ho hr (by decide) hb),
    (h.kp.trans hk (U := [b7]) (fun _ h => .inl h) (fun b hb => .inr (h.oi.ob_ge b hb).1)).trans kz (fun _ h => .inl h) (fun _ h => .inl h)⟩
theorem r20Allowed_any (fa : Option Addr) (fn fc : Nat) (m : List Bool) (hn : fn = m.length) (id : Int) (w : World) (h : RdF w fa fc m) : Calls Try.prog 51 #[.slice fa fn fc, .int .i64 id] w fun e w' => e = .returned (.bool (allowedB m id)) ∧ w' = w := by
  have hcap : fn ≤ fc := by rw [hn]; exact h.1
  have hcap2 := h.2.1
  have HV : Hid (allowedB m id = (decide (fn = 0) || (decide (0 ≤ id) && (decide (id < (fn : Int)) && nthF m id.toNat)))) := Lib.hid (by unfold allowedB; rw [hn])
  have H := Lib.hid h
  have HN := Lib.hid hn
  clear h hn
  generalize allowedB m id = v at *
  by_cases h0 : fn = 0
  · subst h0
    have HF : Hid (v = true) := Lib.hid (by rw [HV.out]; rfl)
    go_enter Try.func51, Try.ntmps51
    go_wp2_with fail
    go_ret
    exact ⟨by rw [HF.out]; rfl, rfl⟩
  · have hb : ((fn : Int) == 0) = false := by simp; omega
    by_cases h1 : (0 : Int) ≤ id
    · by_cases h2 : id < (fn : Int)
      · obtain ⟨i, rfl⟩ : ∃ i : Nat, id = (i : Int) := ⟨id.toNat, by omega⟩
        have hi : i < fn := by omega
        obtain ⟨b, off, rfl, c0⟩ := H.out.at' i (by rw [← HN.out]; exact hi)
        have HF : Hid (v = nthF m i) := Lib.hid (by
          rw [HV.out, decide_eq_false h0, decide_eq_true h1, decide_eq_true h2]; simp)
        generalize nthF m i = q at *
        have hd1 : decide ((0 : Int) ≤ (i : Int)) = true := by simp
        have hd2 : decide ((i : Int) < (fn : Int)) = true := by simp; omega
        clear HV H HN
        go_enter Try.func51, Try.ntmps51
        go_wp2_with fail
        go_ret
        exact ⟨by rw [HF.out]; rfl, rfl⟩
      · have HF : Hid (v = false) := Lib.hid (by rw [HV.out, decide_eq_false h0, decide_eq_true h1, decide_eq_false h2]; rfl)
        go_enter Try.func51, Try.ntmps51
        go_wp2_with fail
        go_ret
        exact ⟨by rw [HF.out]; rfl, rfl⟩
    · have HF : Hid (v = false) := Lib.hid (by rw [HV.out, decide_eq_false h0, decide_eq_false h1]; rfl)
      go_enter Try.func51, Try.ntmps51
      go_wp2_with fail
      go_ret
      exact ⟨by rw [HF.out]; rfl, rfl⟩

set_option maxHeartbeats 6400000 in
theorem r19Row_any (sa : Option Addr) (sn sc : Nat) (S : List Ih) (hS : sn = S.length) (ma : Option Addr) (mn mc : Nat) (D : List Ih) (hD : mn = D.length) (i : Nat) (hi1 : ∀ t, t < sn → i < (rowP (lis S) t).length) (hi2 : ∀ t, t < mn → i < (rowP (lis D) t).length) (hb : sn ≤ 1000 ∧ mn ≤ 1000) (w : World) (hs : RdI w sa sc S) (hd : RdI w ma mc D) :
    Calls Try.prog 42 #[.slice sa sn sc, .slice ma mn mc, .int .i64 (i : Int)] w fun e w' => ∃ z : Ra, e = .returned (raV z) ∧ z.pr = rowPR (lis S) (lis D) i ∧ RaOwn w' w.heap.size z ∧ Kp [] w w' := by
  have HSN := Lib.hid hS
  have HDN := Lib.hid hD
  have HSR := Lib.hid hs
  have HDR := Lib.hid hd
  have HI1 := Lib.hid hi1
  have HI2 := Lib.hid hi2
  obtain ⟨hb1, hb2⟩ := hb
  have hsc : sn ≤ sc := by rw [hS]; exact hs.1.1
  have hmc : mn ≤ mc := by rw [hD]; exact hd.1.1
  have hsc2 : sc ≤ 9223372036854775807 := hs.1.2.1
  have hmc2 : mc ≤ 9223372036854775807 := hd.1.2.1
  obtain ⟨ids, hids⟩ : ∃ ids, ids = (lis S).map (fun l => nth l i) := ⟨_, rfl⟩
  obtain ⟨Z, hZ⟩ : ∃ Z : List S3, Z = (lis D).map (fun l => ⟨nth l i, nth l i, nth l i⟩) := ⟨_, rfl⟩
  have HIDS := Lib.hid hids
  have HZ := Lib.hid hZ
  have HIL : Hid (ids.length = sn) := Lib.hid (by rw [hids, List.length_map, lis, List.length_map, hS])
  have HZL : Hid (Z.length = mn) := Lib.hid (by rw [hZ, List.length_map, lis, List.length_map, hD])
  clear hS hD hs hd hi1 hi2 hids hZ
  go_enter Try.func42, Try.ntmps42
  go_upto_region 2 with (refine wpList_store_row rfl 34 _ _ rfl (w.heap.size + 1) #[.slice none 0 0, .int .i64 1, .slice none 0 0, .slice none 0 0, .slice none 0 0] rfl rfl 34 _ (heap_alloc_at rfl) (by kernel_rfl) rfl (by simp [Value.oneCell']) ?_)
  obtain ⟨p6, hp6⟩ : ∃ p, p = w.heap.size := ⟨_, rfl⟩
  obtain ⟨b7, hb7⟩ : ∃ p, p = w.heap.size + 1 := ⟨_, rfl⟩
  obtain ⟨w3, hw3⟩ : ∃ w3, w3 = (w.alloc (Obj.cells #[.slice none 0 0, .int .i64 0, .slice none 0 0, .slice none 0 0, .slice none 0 0] 34)).alloc (Obj.cells #[.slice none 0 0, .int .i64 1, .slice none 0 0, .slice none 0 0, .slice none 0 0] 34) := ⟨_, rfl⟩
  rw [← hw3]
  have k3 : Kp [] w w3 := by rw [hw3]; exact ((Kp.refl [] w).alloc _).alloc _
  have r7 : w3.heap[b7]? = some (.cells #[.slice none 0 0, .int .i64 1, .slice none 0 0, .slice none 0 0, .slice none 0 0] 34) := by rw [hw3, hb7]; exact heap_alloc_at (by simp)
  have r6 : w3.heap[p6]? = some (.cells #[.slice none 0 0, .int .i64 0, .slice none 0 0, .slice none 0 0, .slice none 0 0] 34) := by
    rw [hw3]
    exact cells_alloc (heap_alloc_at hp6)
  rw [← hb7, ← hp6]
  have R6 := Lib.hid r6
  have R7 := Lib.hid r7
  have K3 := Lib.hid k3
  have HPS : Hid (w.heap.size ≤ p6 ∧ w.heap.size ≤ b7 ∧ p6 ≠ b7 ∧ p6 < w3.heap.size ∧ b7 < w3.heap.size) := Lib.hid ⟨by omega, by omega, by omega, lt_of_heap r6, lt_of_heap r7⟩
  clear hw3 hp6 hb7 r6 r7 k3
  go_wp2_with fail
  go_loopw [8] (fun vi wr => ∃ (t : Nat) (ia : Option Addr) (ic : Nat), t ≤ sn ∧ vi = .int .i64 t ∧ Hid (RwI w3 b7 ids t ia ic wr)) (fun vi _ => sn - (intOf vi).toNat)
  case atStart => exact ⟨0, none, 0, Nat.zero_le _, rfl, Lib.hid ⟨R7.out, Own.nil _ _ _ _, Kp.refl _ _⟩⟩
  case round =>
    obtain ⟨t, ia, ic, ht, rfl, HI⟩ := hrel
    obtain ⟨wt, rfl⟩ : ∃ wt : World, wt = wr := ⟨_, rfl⟩
    have hic : ic ≤ 9223372036854775807 := HI.out.oi.rd.2.1
    have HW3 : Hid (∀ W, Kp [b7] w3 W → Kp [] w W) := Lib.hid (fun W hW => K3.out.trans hW (by simp) (fun b hb => .inr (by simp at hb; subst hb; exact HPS.out.2.1)))
    by_cases hlt : t < sn
    · have ht1 : t < S.length := by rw [← HSN.out]; exact hlt
      obtain ⟨b1, o1, b2, o2, n2, rc2, hsa, hn1, hn2, hn3, hx⟩ := HSR.out.two ht1 (HI1.out t hlt)
      subst hsa
      have hzt : ids.take (t + 1) = ids.take t ++ [nth (rowP (lis S) t) i] := take_snoc (by
        rw [HIDS.out, List.getElem?_map, rowP, List.getD_eq_getElem?_getD, List.getElem?_eq_getElem (by simpa [lis] using ht1)]; rfl)
      generalize nth (rowP (lis S) t) i = z at hx hzt
      have HZT := Lib.hid hzt
      have HX2 : Hid (∀ W, Kp [b7] w3 W → W.cell? ⟨b1, o1 + t, none⟩ = some (.slice (some ⟨b2, o2, none⟩) n2 rc2) ∧ W.cell? ⟨b2, o2 + i, none⟩ = some (.int .i64 z)) := Lib.hid (fun W hW => hx W (HW3.out W hW))
      obtain ⟨Zs, hZs⟩ : ∃ l, l = ids.take t := ⟨_, rfl⟩
      have HZN : Hid (t = Zs.length) := Lib.hid (by rw [hZs, List.length_take, HIL.out]; omega)
      have HOS : Hid (Own wt w3.heap.size 3 .i64 ia ic Zs) := Lib.hid (by rw [hZs]; exact HI.out.oi)
      have HZS := Lib.hid hZs
      have HROW := Lib.hid HI.out.row
      have HLT : ∀ y ∈ ob ia ic, y < wt.heap.size := fun y hy => (HOS.out.ob_ge y hy).2
      have HNS : Hid (b7 ∉ ob ia ic) := Lib.hid (ownI_ne HOS.out HROW.out (by decide))
      have HKD : Hid (∀ W, Kp (ob ia ic) wt W → Kp [b7] w3 W) := Lib.hid (fun W hW => HI.out.kp.trans hW (U := [b7]) (fun _ h => .inl h) (fun b hb => .inr (HI.out.oi.ob_ge b hb).1))
      clear ht1 hx hzt hZs
      go_upto_region 5 with (fail)
      refine wp_region_GS (by kernel_rfl) (ob ia ic) [.val (.pointer (some ⟨b7, 0, none⟩)), .val (.slice ia t ic), .val (.slice (some ⟨b1, o1, none⟩) sn sc), .val (.int .i64 (t : Int)), .val (.pointer (some ⟨b1, o1 + t, none⟩)), .val (.slice (some ⟨b2, o2, none⟩) n2 rc2), .val (.int .i64 (i : Int)), .val (.pointer (some ⟨b2, o2 + i, none⟩)), .val (.int .i64 z), .own wt.heap.size HLT 3 .i64 1 [z], .app wt.heap.size HLT 3 .i64 ia ic (t + 1) (Zs ++ [z]), .val (.pointer (some ⟨b7, 0, none⟩))] [[(7, none)], [(17, some 0)], [(0, none)], [(8, none)], [(19, some 2), (20, some 3)], [(21, some 4)], [(2, none)], [(22, some 5), (23, some 6)], [(24, some 7)], [(25, some 8)], [(18, some 1), (26, some 9)], [(7, none)]] [10] (fun m wx => AppI w3.heap.size 3 .i64 ia ic (t + 1) Zs z (decide (0 < m)) wx) 12 rfl (by kernel_rfl) (by kernel_rfl) (by kernel_rfl) (by kernel_rfl) (by kernel_rfl) (by simp) (fun _ _ _ h k => AppI.keep h k (by simp)) (AppI.of HOS.out) ?_ ?_
      · refine (ObG.free rfl ?o0 (ObG.free rfl ?o1 (ObG.free rfl ?o2 (ObG.free rfl ?o3 (ObG.free rfl ?o4 (ObG.free rfl ?o5 (ObG.free rfl ?o6 (ObG.free rfl ?o7 (ObG.free rfl ?o8 (ObG.free rfl ?o9 (ObG.chain 0 rfl ?o10 (ObG.free rfl ?o11 trivial))))))))))))
        case o0 => intro aR wR mR hR hI; replace hR := hR.undrew; intro (h7 : aR.tmps[7]? = some (.pointer (some ⟨b7, 0, none⟩))); exact exec_val (c := .pointer (some ⟨b7, 0, none⟩)) (wanted_none rfl) (by go_simp) rfl
        case o1 => intro aR wR mR hR hI; replace hR := hR.undrew; intro v17 h17 e17; replace e17 : v17 = .pointer (some ⟨b7, 0, none⟩) := e17; subst e17; (have h1 := arow_cell (hR.get HROW.out HNS.out) 0 rfl); exact exec_val (c := .slice ia t ic) (wanted_none rfl) (by go_simp) rfl
        case o2 => intro aR wR mR hR hI; replace hR := hR.undrew; intro (h0 : aR.tmps[0]? = some (.slice (some ⟨b1, o1, none⟩) sn sc)); exact exec_val (c := .slice (some ⟨b1, o1, none⟩) sn sc) (wanted_none rfl) (by go_simp) rfl
        case o3 => intro aR wR mR hR hI; replace hR := hR.undrew; intro (h8 : aR.tmps[8]? = some (.int .i64 (t : Int))); exact exec_val (c := .int .i64 (t : Int)) (wanted_none rfl) (by go_simp) rfl
        case o4 => intro aR wR mR hR hI; replace hR := hR.undrew; intro v19 h19 e19; replace e19 : v19 = .slice (some ⟨b1, o1, none⟩) sn sc := e19; subst e19; intro v20 h20 e20; replace e20 : v20 = .int .i64 (t : Int) := e20; subst e20; exact exec_val (c := .pointer (some ⟨b1, o1 + t, none⟩)) (wanted_none rfl) (by go_simp) rfl
        case o5 => intro aR wR mR hR hI; replace hR := hR.undrew; intro v21 h21 e21; replace e21 : v21 = .pointer (some ⟨b1, o1 + t, none⟩) := e21; subst e21; (have h1 := (HX2.out wR (HKD.out wR hR)).1); exact exec_val (c := .slice (some ⟨b2, o2, none⟩) n2 rc2) (wanted_none rfl) (by go_simp) rfl
        case o6 => intro aR wR mR hR hI; replace hR := hR.undrew; intro (h2 : aR.tmps[2]? = some (.int .i64 (i : Int))); exact exec_val (c := .int .i64 (i : Int)) (wanted_none rfl) (by go_simp) rfl
        case o7 => intro aR wR mR hR hI; replace hR := hR.undrew; intro v22 h22 e22; replace e22 : v22 = .slice (some ⟨b2, o2, none⟩) n2 rc2 := e22; subst e22; intro v23 h23 e23; replace e23 : v23 = .int .i64 (i : Int) := e23; subst e23; exact exec_val (c := .pointer (some ⟨b2, o2 + i, none⟩)) (wanted_none rfl) (by go_simp) rfl
        case o8 => intro aR wR mR hR hI; replace hR := hR.undrew; intro v24 h24 e24; replace e24 : v24 = .pointer (some ⟨b2, o2 + i, none⟩) := e24; subst e24; (have h1 := (HX2.out wR (HKD.out wR hR)).2); exact exec_val (c := .int .i64 z) (wanted_none rfl) (by go_simp) rfl
        case o9 => intro aR wR mR hR hI; replace hR := hR.undrew; intro v25 h25 e25; replace e25 : v25 = .int .i64 z := e25; subst e25; exact exec_do (c := .slice (some ⟨wR.heap.size, 0, none⟩) 1 1) (w' := wR.alloc (.cells #[.int .i64 z] 3)) (wanted_none rfl) (by go_simp) ⟨_, 1, rfl, own_one1 hR.size (heap_alloc_at rfl)⟩ ((Kp.refl [] _).alloc _)
        case o10 => intro aR wR hR hI; replace hR := hR.undrew; intro v18 h18 e18; replace e18 : v18 = .slice ia t ic := e18; subst e18; intro v26 h26 e26; obtain ⟨ad9, cap9, rfl, ho9⟩ := e26; exact exec_app_or (wanted_none rfl) (.tmp 18) (.tmp 26) 23 23 rfl w3.heap.size 8 Try.underlying23 infoInt ia ic t Zs HZN.out [z] (.slice ad9 1 cap9) 1 rfl (by go_simp) (by go_simp) (AppI.off hI) (src_rd ho9.rd Try.underlying23) (by omega) (by omega) (fun w' hr g1 g2 => ⟨.inl ⟨hr, rfl⟩, g2, AppI.room hr g1⟩) (fun ad' cap' w' hc g1 g2 => ⟨.inr ⟨ad', cap', hc, rfl, g1.mono hR.size⟩, g2.wide (by simp), AppI.grow hc ((AppI.off hI).keep0 g2)⟩)
        case o11 => intro aR wR mR hR hI; replace hR := hR.undrew; intro (h7 : aR.tmps[7]? = some (.pointer (some ⟨b7, 0, none⟩))); exact exec_val (c := .pointer (some ⟨b7, 0, none⟩)) (wanted_none rfl) (by go_simp) rfl
      · intro vs wR hR hI hV
        obtain ⟨e0, e1, e2, e3, e4, e5, e6, e7, e8, e9, e10, e11, -⟩ := hV
        replace e0 : vs 0 = .pointer (some ⟨b7, 0, none⟩) := e0
        replace e1 : vs 1 = .slice ia t ic := e1
        replace e2 : vs 2 = .slice (some ⟨b1, o1, none⟩) sn sc := e2
        replace e3 : vs 3 = .int .i64 (t : Int) := e3
        replace e4 : vs 4 = .pointer (some ⟨b1, o1 + t, none⟩) := e4
        replace e5 : vs 5 = .slice (some ⟨b2, o2, none⟩) n2 rc2 := e5
        replace e6 : vs 6 = .int .i64 (i : Int) := e6
        replace e7 : vs 7 = .pointer (some ⟨b2, o2 + i, none⟩) := e7
        replace e8 : vs 8 = .int .i64 z := e8
        replace e11 : vs 11 = .pointer (some ⟨b7, 0, none⟩) := e11
        simp only [putAll, List.take_succ_cons, List.take_zero, List.drop_succ_cons, List.drop_zero, e0, e1, e2, e3, e4, e5, e6, e7, e8, e11, Nat.reduceAdd, Nat.zero_add]
        clear e0 e1 e2 e3 e4 e5 e6 e7 e8 e11
        try simp only [List.setIfInBounds_toArray, List.set_cons_succ, List.set_cons_zero]
        simp only [Nat.reduceAdd, Nat.zero_add] at e10
        obtain ⟨ia', ic', hv10, os', hob10⟩ := app_res (hS := HLT) HI.out.kp.size e10 hI
        rw [hv10]
        have cS := arow_cell (hR.get HROW.out HNS.out) 0 rfl
        have fS := frozen_of_row wR b7 0 _ _ (hR.get HROW.out HNS.out)
        have HI6 := Lib.hid (HI.out.set HZT.out (by rw [← HZS.out]; exact os') hR)
        generalize vs 9 = v9
        clear e10 hv10 os' hob10 hI hR
        clear e9
        clear HLT
        go_wp2_with fail
        go_roundw
        case rel => exact ⟨t + 1, ia', ic', hlt, by go_num, HI6⟩
        case measure => simp [intOf]; omega
    · obtain rfl : sn = t := by omega
      have hall : ids.take sn = ids := List.take_of_length_le (by rw [HIL.out]; exact Nat.le_refl _)
      have hia := HI.out.oi
      rw [hall] at hia
      have G5 := Lib.hid HI.out.row
      have HIA := Lib.hid hia
      have K5 := Lib.hid HI.out.kp
      clear hall hia HI
      obtain ⟨w5, rfl⟩ : ∃ w5 : World, w5 = wt := ⟨_, rfl⟩
      have HW5 : Hid (∀ W, Kp [b7] w5 W → Kp [] w W) := Lib.hid (fun W hW => HW3.out W (K5.out.trans hW (fun _ h => .inl h) (fun _ h => .inl h)))
      go_wp2_with fail
      go_loopw [9] (fun vi wr => ∃ (t : Nat) (qa : Option Addr) (qc : Nat) (ra : Option Addr) (rc : Nat) (ua : Option Addr) (uc : Nat), t ≤ mn ∧ vi = .int .i64 t ∧ Hid (MgI w5 b7 ia sn ic 1 Z t t t qa qc ra rc ua uc wr)) (fun vi _ => mn - (intOf vi).toNat)
      case atStart => exact ⟨0, none, 0, none, 0, none, 0, Nat.zero_le _, rfl, Lib.hid ⟨G5.out, Own.nil _ _ _ _, Own.nil _ _ _ _, Own.nil _ _ _ _, by simp [ob], by simp [ob], by simp [ob], Kp.refl _ _⟩⟩
      case round =>
        obtain ⟨t, qa, qc, ra, rc, ua, uc, ht, rfl, HI⟩ := hrel
        obtain ⟨wt, rfl⟩ : ∃ wt : World, wt = wr := ⟨_, rfl⟩
        have hcb : qc ≤ 9223372036854775807 ∧ rc ≤ 9223372036854775807 ∧ uc ≤ 9223372036854775807 := ⟨HI.out.os.rd.2.1, HI.out.ol.rd.2.1, HI.out.og.rd.2.1⟩
        by_cases hlt : t < mn
        · have ht1 : t < D.length := by rw [← HDN.out]; exact hlt
          obtain ⟨b1, o1, b2, o2, n2, rc2, hma, hn1, hn2, hn3, hx⟩ := HDR.out.two ht1 (HI2.out t hlt)
          subst hma
          have hzt : Z.take (t + 1) = Z.take t ++ [(⟨nth (rowP (lis D) t) i, nth (rowP (lis D) t) i, nth (rowP (lis D) t) i⟩ : S3)] := take_snoc (by
            rw [HZ.out, List.getElem?_map, rowP, List.getD_eq_getElem?_getD, List.getElem?_eq_getElem (by simpa [lis] using ht1)]; rfl)
          generalize nth (rowP (lis D) t) i = z at hx hzt
          have HZ1 : Hid ((Z.take (t + 1)).map (·.s) = (Z.take t).map (·.s) ++ [z]) := Lib.hid (by rw [hzt, List.map_append]; rfl)
          have HZ2 : Hid ((Z.take (t + 1)).map (·.l) = (Z.take t).map (·.l) ++ [z]) := Lib.hid (by rw [hzt, List.map_append]; rfl)
          have HZ3 : Hid ((Z.take (t + 1)).map (·.g) = (Z.take t).map (·.g) ++ [z]) := Lib.hid (by rw [hzt, List.map_append]; rfl)
          have HX2 : Hid (∀ W, Kp [b7] w5 W → W.cell? ⟨b1, o1 + t, none⟩ = some (.slice (some ⟨b2, o2, none⟩) n2 rc2) ∧ W.cell? ⟨b2, o2 + i, none⟩ = some (.int .i64 z)) := Lib.hid (fun W hW => hx W (HW5.out W hW))
          clear ht1 hx hzt
          obtain ⟨Zss, hZs⟩ : ∃ l, l = (Z.take t).map (·.s) := ⟨_, rfl⟩
          have HZNs : Hid (t = Zss.length) := Lib.hid (by rw [hZs, List.length_map, List.length_take, HZL.out]; omega)
          have HZSs := Lib.hid hZs
          clear hZs
          obtain ⟨Zsl, hZs⟩ : ∃ l, l = (Z.take t).map (·.l) := ⟨_, rfl⟩
          have HZNl : Hid (t = Zsl.length) := Lib.hid (by rw [hZs, List.length_map, List.length_take, HZL.out]; omega)
          have HZSl := Lib.hid hZs
          clear hZs
          obtain ⟨Zsg, hZs⟩ : ∃ l, l = (Z.take t).map (·.g) := ⟨_, rfl⟩
          have HZNg : Hid (t = Zsg.length) := Lib.hid (by rw [hZs, List.length_map, List.length_take, HZL.out]; omega)
          have HZSg := Lib.hid hZs
          clear hZs
          have HOSs : Hid (Own wt w5.heap.size 2 .i64 qa qc Zss) := Lib.hid (by rw [HZSs.out]; exact HI.out.os)
          have HROWs := Lib.hid HI.out.row
          have HLTs : ∀ y ∈ ob qa qc, y < wt.heap.size := fun y hy => (HOSs.out.ob_ge y hy).2
          have HNSs : Hid (b7 ∉ ob qa qc) := Lib.hid (ownI_ne HOSs.out HROWs.out (by decide))
          have HKDs : Hid (∀ W, Kp (ob qa qc) wt W → Kp [b7] w5 W) := Lib.hid (fun W hW => HI.out.kp.trans hW (U := [b7]) (fun _ h => .inl h) (fun b hb => .inr (HI.out.os.ob_ge b hb).1))
          go_upto_region 9 with (fail)
          refine wp_region_GS (by kernel_rfl) (ob qa qc) [.val (.pointer (some ⟨b7, 2, none⟩)), .val (.slice qa t qc), .val (.slice (some ⟨b1, o1, none⟩) mn mc), .val (.int .i64 (t : Int)), .val (.pointer (some ⟨b1, o1 + t, none⟩)), .val (.slice (some ⟨b2, o2, none⟩) n2 rc2), .val (.int .i64 (i : Int)), .val (.pointer (some ⟨b2, o2 + i, none⟩)), .val (.int .i64 z), .own wt.heap.size HLTs 2 .i64 1 [z], .app wt.heap.size HLTs 2 .i64 qa qc (t + 1) (Zss ++ [z]), .val (.pointer (some ⟨b7, 2, none⟩))] [[(7, none)], [(35, some 0)], [(1, none)], [(9, none)], [(37, some 2), (38, some 3)], [(39, some 4)], [(2, none)], [(40, some 5), (41, some 6)], [(42, some 7)], [(43, some 8)], [(36, some 1), (44, some 9)], [(7, none)]] [10] (fun m wx => AppI w5.heap.size 2 .i64 qa qc (t + 1) Zss z (decide (0 < m)) wx) 12 rfl (by kernel_rfl) (by kernel_rfl) (by kernel_rfl) (by kernel_rfl) (by kernel_rfl) (by simp) (fun _ _ _ h k => AppI.keep h k (by simp)) (AppI.of HOSs.out) ?_ ?_
          · refine (ObG.free rfl ?o0 (ObG.free rfl ?o1 (ObG.free rfl ?o2 (ObG.free rfl ?o3 (ObG.free rfl ?o4 (ObG.free rfl ?o5 (ObG.free rfl ?o6 (ObG.free rfl ?o7 (ObG.free rfl ?o8 (ObG.free rfl ?o9 (ObG.chain 0 rfl ?o10 (ObG.free rfl ?o11 trivial))))))))))))
            case o0 => intro aR wR mR hR hI; replace hR := hR.undrew; intro (h7 : aR.tmps[7]? = some (.pointer (some ⟨b7, 0, none⟩))); exact exec_val (c := .pointer (some ⟨b7, 2, none⟩)) (wanted_none rfl) (by go_simp) rfl
            case o1 => intro aR wR mR hR hI; replace hR := hR.undrew; intro v35 h35 e35; replace e35 : v35 = .pointer (some ⟨b7, 2, none⟩) := e35; subst e35; (have h1 := arow_cell (hR.get HROWs.out HNSs.out) 2 rfl); exact exec_val (c := .slice qa t qc) (wanted_none rfl) (by go_simp) rfl
            case o2 => intro aR wR mR hR hI; replace hR := hR.undrew; intro (h1 : aR.tmps[1]? = some (.slice (some ⟨b1, o1, none⟩) mn mc)); exact exec_val (c := .slice (some ⟨b1, o1, none⟩) mn mc) (wanted_none rfl) (by go_simp) rfl
            case o3 => intro aR wR mR hR hI; replace hR := hR.undrew; intro (h9 : aR.tmps[9]? = some (.int .i64 (t : Int))); exact exec_val (c := .int .i64 (t : Int)) (wanted_none rfl) (by go_simp) rfl
            case o4 => intro aR wR mR hR hI; replace hR := hR.undrew; intro v37 h37 e37; replace e37 : v37 = .slice (some ⟨b1, o1, none⟩) mn mc := e37; subst e37; intro v38 h38 e38; replace e38 : v38 = .int .i64 (t : Int) := e38; subst e38; exact exec_val (c := .pointer (some ⟨b1, o1 + t, none⟩)) (wanted_none rfl) (by go_simp) rfl
            case o5 => intro aR wR mR hR hI; replace hR := hR.undrew; intro v39 h39 e39; replace e39 : v39 = .pointer (some ⟨b1, o1 + t, none⟩) := e39; subst e39; (have h1 := (HX2.out wR (HKDs.out wR hR)).1); exact exec_val (c := .slice (some ⟨b2, o2, none⟩) n2 rc2) (wanted_none rfl) (by go_simp) rfl
            case o6 => intro aR wR mR hR hI; replace hR := hR.undrew; intro (h2 : aR.tmps[2]? = some (.int .i64 (i : Int))); exact exec_val (c := .int .i64 (i : Int)) (wanted_none rfl) (by go_simp) rfl
            case o7 => intro aR wR mR hR hI; replace hR := hR.undrew; intro v40 h40 e40; replace e40 : v40 = .slice (some ⟨b2, o2, none⟩) n2 rc2 := e40; subst e40; intro v41 h41 e41; replace e41 : v41 = .int .i64 (i : Int) := e41; subst e41; exact exec_val (c := .pointer (some ⟨b2, o2 + i, none⟩)) (wanted_none rfl) (by go_simp) rfl
            case o8 => intro aR wR mR hR hI; replace hR := hR.undrew; intro v42 h42 e42; replace e42 : v42 = .pointer (some ⟨b2, o2 + i, none⟩) := e42; subst e42; (have h1 := (HX2.out wR (HKDs.out wR hR)).2); exact exec_val (c := .int .i64 z) (wanted_none rfl) (by go_simp) rfl
            case o9 => intro aR wR mR hR hI; replace hR := hR.undrew; intro v43 h43 e43; replace e43 : v43 = .int .i64 z := e43; subst e43; exact exec_do (c := .slice (some ⟨wR.heap.size, 0, none⟩) 1 1) (w' := wR.alloc (.cells #[.int .i64 z] 2)) (wanted_none rfl) (by go_simp) ⟨_, 1, rfl, own_one1 hR.size (heap_alloc_at rfl)⟩ ((Kp.refl [] _).alloc _)
            case o10 => intro aR wR hR hI; replace hR := hR.undrew; intro v36 h36 e36; replace e36 : v36 = .slice qa t qc := e36; subst e36; intro v44 h44 e44; obtain ⟨ad9, cap9, rfl, ho9⟩ := e44; exact exec_app_or (wanted_none rfl) (.tmp 36) (.tmp 44) 32 32 rfl w5.heap.size 8 Try.underlying32 infoI64 qa qc t Zss HZNs.out [z] (.slice ad9 1 cap9) 1 rfl (by go_simp) (by go_simp) (AppI.off hI) (src_rd ho9.rd Try.underlying32) (by omega) (by omega) (fun w' hr g1 g2 => ⟨.inl ⟨hr, rfl⟩, g2, AppI.room hr g1⟩) (fun ad' cap' w' hc g1 g2 => ⟨.inr ⟨ad', cap', hc, rfl, g1.mono hR.size⟩, g2.wide (by simp), AppI.grow hc ((AppI.off hI).keep0 g2)⟩)
            case o11 => intro aR wR mR hR hI; replace hR := hR.undrew; intro (h7 : aR.tmps[7]? = some (.pointer (some ⟨b7, 0, none⟩))); exact exec_val (c := .pointer (some ⟨b7, 2, none⟩)) (wanted_none rfl) (by go_simp) rfl
          · intro vs wR hR hI hV
            obtain ⟨e0, e1, e2, e3, e4, e5, e6, e7, e8, e9, e10, e11, -⟩ := hV
            replace e0 : vs 0 = .pointer (some ⟨b7, 2, none⟩) := e0
            replace e1 : vs 1 = .slice qa t qc := e1
            replace e2 : vs 2 = .slice (some ⟨b1, o1, none⟩) mn mc := e2
            replace e3 : vs 3 = .int .i64 (t : Int) := e3
            replace e4 : vs 4 = .pointer (some ⟨b1, o1 + t, none⟩) := e4
            replace e5 : vs 5 = .slice (some ⟨b2, o2, none⟩) n2 rc2 := e5
            replace e6 : vs 6 = .int .i64 (i : Int) := e6
            replace e7 : vs 7 = .pointer (some ⟨b2, o2 + i, none⟩) := e7
            replace e8 : vs 8 = .int .i64 z := e8
            replace e11 : vs 11 = .pointer (some ⟨b7, 2, none⟩) := e11
            simp only [putAll, List.take_succ_cons, List.take_zero, List.drop_succ_cons, List.drop_zero, e0, e1, e2, e3, e4, e5, e6, e7, e8, e11, Nat.reduceAdd, Nat.zero_add]
            clear e0 e1 e2 e3 e4 e5 e6 e7 e8 e11
            try simp only [List.setIfInBounds_toArray, List.set_cons_succ, List.set_cons_zero]
            simp only [Nat.reduceAdd, Nat.zero_add] at e10
            obtain ⟨qa', qc', hv10, os', hob10⟩ := app_res (hS := HLTs) HI.out.kp.size e10 hI
            rw [hv10]
            have cS := arow_cell (hR.get HROWs.out HNSs.out) 2 rfl
            have fS := frozen_of_row wR b7 2 _ _ (hR.get HROWs.out HNSs.out)
            have HI6 := Lib.hid (HI.out.setS HZ1.out (by rw [← HZSs.out]; exact os') hR hob10)
            generalize vs 9 = v9s
            clear e10 hv10 os' hob10 hI hR
            clear e9
            clear HLTs
            go_upto_region 10 with (fail)
            generalize wR.setCell ⟨b7, 2, none⟩ (.slice qa' (t + 1) qc') = w6 at *
            clear cS fS
            have HOSl : Hid (Own w6 w5.heap.size 2 .i64 ra rc Zsl) := Lib.hid (by rw [HZSl.out]; exact HI6.out.ol)
            have HROWl := Lib.hid HI6.out.row
            have HLTl : ∀ y ∈ ob ra rc, y < w6.heap.size := fun y hy => (HOSl.out.ob_ge y hy).2
            have HNSl : Hid (b7 ∉ ob ra rc) := Lib.hid (ownI_ne HOSl.out HROWl.out (by decide))
            have HKDl : Hid (∀ W, Kp (ob ra rc) w6 W → Kp [b7] w5 W) := Lib.hid (fun W hW => HI6.out.kp.trans hW (U := [b7]) (fun _ h => .inl h) (fun b hb => .inr (HI6.out.ol.ob_ge b hb).1))
            go_upto_region 10 with (fail)
            refine wp_region_GS (by kernel_rfl) (ob ra rc) [.val (.pointer (some ⟨b7, 3, none⟩)), .val (.slice ra t rc), .val (.slice (some ⟨b1, o1, none⟩) mn mc), .val (.int .i64 (t : Int)), .val (.pointer (some ⟨b1, o1 + t, none⟩)), .val (.slice (some ⟨b2, o2, none⟩) n2 rc2), .val (.int .i64 (i : Int)), .val (.pointer (some ⟨b2, o2 + i, none⟩)), .val (.int .i64 z), .own w6.heap.size HLTl 2 .i64 1 [z], .app w6.heap.size HLTl 2 .i64 ra rc (t + 1) (Zsl ++ [z]), .val (.pointer (some ⟨b7, 3, none⟩))] [[(7, none)], [(47, some 0)], [(1, none)], [(9, none)], [(49, some 2), (50, some 3)], [(51, some 4)], [(2, none)], [(52, some 5), (53, some 6)], [(54, some 7)], [(55, some 8)], [(48, some 1), (56, some 9)], [(7, none)]] [10] (fun m wx => AppI w5.heap.size 2 .i64 ra rc (t + 1) Zsl z (decide (0 < m)) wx) 12 rfl (by kernel_rfl) (by kernel_rfl) (by kernel_rfl) (by kernel_rfl) (by kernel_rfl) (by simp) (fun _ _ _ h k => AppI.keep h k (by simp)) (AppI.of HOSl.out) ?_ ?_
            · refine (ObG.free rfl ?o0 (ObG.free rfl ?o1 (ObG.free rfl ?o2 (ObG.free rfl ?o3 (ObG.free rfl ?o4 (ObG.free rfl ?o5 (ObG.free rfl ?o6 (ObG.free rfl ?o7 (ObG.free rfl ?o8 (ObG.free rfl ?o9 (ObG.chain 0 rfl ?o10 (ObG.free rfl ?o11 trivial))))))))))))
              case o0 => intro aR wR mR hR hI; replace hR := hR.undrew; intro (h7 : aR.tmps[7]? = some (.pointer (some ⟨b7, 0, none⟩))); exact exec_val (c := .pointer (some ⟨b7, 3, none⟩)) (wanted_none rfl) (by go_simp) rfl
              case o1 => intro aR wR mR hR hI; replace hR := hR.undrew; intro v47 h47 e47; replace e47 : v47 = .pointer (some ⟨b7, 3, none⟩) := e47; subst e47; (have h1 := arow_cell (hR.get HROWl.out HNSl.out) 3 rfl); exact exec_val (c := .slice ra t rc) (wanted_none rfl) (by go_simp) rfl
              case o2 => intro aR wR mR hR hI; replace hR := hR.undrew; intro (h1 : aR.tmps[1]? = some (.slice (some ⟨b1, o1, none⟩) mn mc)); exact exec_val (c := .slice (some ⟨b1, o1, none⟩) mn mc) (wanted_none rfl) (by go_simp) rfl
              case o3 => intro aR wR mR hR hI; replace hR := hR.undrew; intro (h9 : aR.tmps[9]? = some (.int .i64 (t : Int))); exact exec_val (c := .int .i64 (t : Int)) (wanted_none rfl) (by go_simp) rfl
              case o4 => intro aR wR mR hR hI; replace hR := hR.undrew; intro v49 h49 e49; replace e49 : v49 = .slice (some ⟨b1, o1, none⟩) mn mc := e49; subst e49; intro v50 h50 e50; replace e50 : v50 = .int .i64 (t : Int) := e50; subst e50; exact exec_val (c := .pointer (some ⟨b1, o1 + t, none⟩)) (wanted_none rfl) (by go_simp) rfl
              case o5 => intro aR wR mR hR hI; replace hR := hR.undrew; intro v51 h51 e51; replace e51 : v51 = .pointer (some ⟨b1, o1 + t, none⟩) := e51; subst e51; (have h1 := (HX2.out wR (HKDl.out wR hR)).1); exact exec_val (c := .slice (some ⟨b2, o2, none⟩) n2 rc2) (wanted_none rfl) (by go_simp) rfl
              case o6 => intro aR wR mR hR hI; replace hR := hR.undrew; intro (h2 : aR.tmps[2]? = some (.int .i64 (i : Int))); exact exec_val (c := .int .i64 (i : Int)) (wanted_none rfl) (by go_simp) rfl
              case o7 => intro aR wR mR hR hI; replace hR := hR.undrew; intro v52 h52 e52; replace e52 : v52 = .slice (some ⟨b2, o2, none⟩) n2 rc2 := e52; subst e52; intro v53 h53 e53; replace e53 : v53 = .int .i64 (i : Int) := e53; subst e53; exact exec_val (c := .pointer (some ⟨b2, o2 + i, none⟩)) (wanted_none rfl) (by go_simp) rfl
              case o8 => intro aR wR mR hR hI; replace hR := hR.undrew; intro v54 h54 e54; replace e54 : v54 = .pointer (some ⟨b2, o2 + i, none⟩) := e54; subst e54; (have h1 := (HX2.out wR (HKDl.out wR hR)).2); exact exec_val (c := .int .i64 z) (wanted_none rfl) (by go_simp) rfl
              case o9 => intro aR wR mR hR hI; replace hR := hR.undrew; intro v55 h55 e55; replace e55 : v55 = .int .i64 z := e55; subst e55; exact exec_do (c := .slice (some ⟨wR.heap.size, 0, none⟩) 1 1) (w' := wR.alloc (.cells #[.int .i64 z] 2)) (wanted_none rfl) (by go_simp) ⟨_, 1, rfl, own_one1 hR.size (heap_alloc_at rfl)⟩ ((Kp.refl [] _).alloc _)
              case o10 => intro aR wR hR hI; replace hR := hR.undrew; intro v48 h48 e48; replace e48 : v48 = .slice ra t rc := e48; subst e48; intro v56 h56 e56; obtain ⟨ad9, cap9, rfl, ho9⟩ := e56; exact exec_app_or (wanted_none rfl) (.tmp 48) (.tmp 56) 32 32 rfl w5.heap.size 8 Try.underlying32 infoI64 ra rc t Zsl HZNl.out [z] (.slice ad9 1 cap9) 1 rfl (by go_simp) (by go_simp) (AppI.off hI) (src_rd ho9.rd Try.underlying32) (by omega) (by omega) (fun w' hr g1 g2 => ⟨.inl ⟨hr, rfl⟩, g2, AppI.room hr g1⟩) (fun ad' cap' w' hc g1 g2 => ⟨.inr ⟨ad', cap', hc, rfl, g1.mono hR.size⟩, g2.wide (by simp), AppI.grow hc ((AppI.off hI).keep0 g2)⟩)
              case o11 => intro aR wR mR hR hI; replace hR := hR.undrew; intro (h7 : aR.tmps[7]? = some (.pointer (some ⟨b7, 0, none⟩))); exact exec_val (c := .pointer (some ⟨b7, 3, none⟩)) (wanted_none rfl) (by go_simp) rfl
            · intro vs wR hR hI hV
              obtain ⟨e0, e1, e2, e3, e4, e5, e6, e7, e8, e9, e10, e11, -⟩ := hV
              replace e0 : vs 0 = .pointer (some ⟨b7, 3, none⟩) := e0
              replace e1 : vs 1 = .slice ra t rc := e1
              replace e2 : vs 2 = .slice (some ⟨b1, o1, none⟩) mn mc := e2
              replace e3 : vs 3 = .int .i64 (t : Int) := e3
              replace e4 : vs 4 = .pointer (some ⟨b1, o1 + t, none⟩) := e4
              replace e5 : vs 5 = .slice (some ⟨b2, o2, none⟩) n2 rc2 := e5
              replace e6 : vs 6 = .int .i64 (i : Int) := e6
              replace e7 : vs 7 = .pointer (some ⟨b2, o2 + i, none⟩) := e7
              replace e8 : vs 8 = .int .i64 z := e8
              replace e11 : vs 11 = .pointer (some ⟨b7, 3, none⟩) := e11
              simp only [putAll, List.take_succ_cons, List.take_zero, List.drop_succ_cons, List.drop_zero, e0, e1, e2, e3, e4, e5, e6, e7, e8, e11, Nat.reduceAdd, Nat.zero_add]
              clear e0 e1 e2 e3 e4 e5 e6 e7 e8 e11
              try simp only [List.setIfInBounds_toArray, List.set_cons_succ, List.set_cons_zero]
              simp only [Nat.reduceAdd, Nat.zero_add] at e10
              obtain ⟨ra', rc', hv10, os', hob10⟩ := app_res (hS := HLTl) HI6.out.kp.size e10 hI
              rw [hv10]
              have cS := arow_cell (hR.get HROWl.out HNSl.out) 3 rfl
              have fS := frozen_of_row wR b7 3 _ _ (hR.get HROWl.out HNSl.out)
              have HI7 := Lib.hid (HI6.out.setL HZ2.out (by rw [← HZSl.out]; exact os') hR hob10)
              generalize vs 9 = v9l
              clear e10 hv10 os' hob10 hI hR
              clear e9
              clear HLTl
              go_upto_region 11 with (fail)
              generalize wR.setCell ⟨b7, 3, none⟩ (.slice ra' (t + 1) rc') = w7 at *
              clear cS fS
              have HOSg : Hid (Own w7 w5.heap.size 2 .i64 ua uc Zsg) := Lib.hid (by rw [HZSg.out]; exact HI7.out.og)
              have HROWg := Lib.hid HI7.out.row
              have HLTg : ∀ y ∈ ob ua uc, y < w7.heap.size := fun y hy => (HOSg.out.ob_ge y hy).2
              have HNSg : Hid (b7 ∉ ob ua uc) := Lib.hid (ownI_ne HOSg.out HROWg.out (by decide))
              have HKDg : Hid (∀ W, Kp (ob ua uc) w7 W → Kp [b7] w5 W) := Lib.hid (fun W hW => HI7.out.kp.trans hW (U := [b7]) (fun _ h => .inl h) (fun b hb => .inr (HI7.out.og.ob_ge b hb).1))
              go_upto_region 11 with (fail)
              refine wp_region_GS (by kernel_rfl) (ob ua uc) [.val (.pointer (some ⟨b7, 4, none⟩)), .val (.slice ua t uc), .val (.slice (some ⟨b1, o1, none⟩) mn mc), .val (.int .i64 (t : Int)), .val (.pointer (some ⟨b1, o1 + t, none⟩)), .val (.slice (some ⟨b2, o2, none⟩) n2 rc2), .val (.int .i64 (i : Int)), .val (.pointer (some ⟨b2, o2 + i, none⟩)), .val (.int .i64 z), .own w7.heap.size HLTg 2 .i64 1 [z], .app w7.heap.size HLTg 2 .i64 ua uc (t + 1) (Zsg ++ [z]), .val (.pointer (some ⟨b7, 4, none⟩))] [[(7, none)], [(59, some 0)], [(1, none)], [(9, none)], [(61, some 2), (62, some 3)], [(63, some 4)], [(2, none)], [(64, some 5), (65, some 6)], [(66, some 7)], [(67, some 8)], [(60, some 1), (68, some 9)], [(7, none)]] [10] (fun m wx => AppI w5.heap.size 2 .i64 ua uc (t + 1) Zsg z (decide (0 < m)) wx) 12 rfl (by kernel_rfl) (by kernel_rfl) (by kernel_rfl) (by kernel_rfl) (by kernel_rfl) (by simp) (fun _ _ _ h k => AppI.keep h k (by simp)) (AppI.of HOSg.out) ?_ ?_
              · refine (ObG.free rfl ?o0 (ObG.free rfl ?o1 (ObG.free rfl ?o2 (ObG.free rfl ?o3 (ObG.free rfl ?o4 (ObG.free rfl ?o5 (ObG.free rfl ?o6 (ObG.free rfl ?o7 (ObG.free rfl ?o8 (ObG.free rfl ?o9 (ObG.chain 0 rfl ?o10 (ObG.free rfl ?o11 trivial))))))))))))
                case o0 => intro aR wR mR hR hI; replace hR := hR.undrew; intro (h7 : aR.tmps[7]? = some (.pointer (some ⟨b7, 0, none⟩))); exact exec_val (c := .pointer (some ⟨b7, 4, none⟩)) (wanted_none rfl) (by go_simp) rfl
                case o1 => intro aR wR mR hR hI; replace hR := hR.undrew; intro v59 h59 e59; replace e59 : v59 = .pointer (some ⟨b7, 4, none⟩) := e59; subst e59; (have h1 := arow_cell (hR.get HROWg.out HNSg.out) 4 rfl); exact exec_val (c := .slice ua t uc) (wanted_none rfl) (by go_simp) rfl
                case o2 => intro aR wR mR hR hI; replace hR := hR.undrew; intro (h1 : aR.tmps[1]? = some (.slice (some ⟨b1, o1, none⟩) mn mc)); exact exec_val (c := .slice (some ⟨b1, o1, none⟩) mn mc) (wanted_none rfl) (by go_simp) rfl
                case o3 => intro aR wR mR hR hI; replace hR := hR.undrew; intro (h9 : aR.tmps[9]? = some (.int .i64 (t : Int))); exact exec_val (c := .int .i64 (t : Int)) (wanted_none rfl) (by go_simp) rfl
                case o4 => intro aR wR mR hR hI; replace hR := hR.undrew; intro v61 h61 e61; replace e61 : v61 = .slice (some ⟨b1, o1, none⟩) mn mc := e61; subst e61; intro v62 h62 e62; replace e62 : v62 = .int .i64 (t : Int) := e62; subst e62; exact exec_val (c := .pointer (some ⟨b1, o1 + t, none⟩)) (wanted_none rfl) (by go_simp) rfl
                case o5 => intro aR wR mR hR hI; replace hR := hR.undrew; intro v63 h63 e63; replace e63 : v63 = .pointer (some ⟨b1, o1 + t, none⟩) := e63; subst e63; (have h1 := (HX2.out wR (HKDg.out wR hR)).1); exact exec_val (c := .slice (some ⟨b2, o2, none⟩) n2 rc2) (wanted_none rfl) (by go_simp) rfl
                case o6 => intro aR wR mR hR hI; replace hR := hR.undrew; intro (h2 : aR.tmps[2]? = some (.int .i64 (i : Int))); exact exec_val (c := .int .i64 (i : Int)) (wanted_none rfl) (by go_simp) rfl
                case o7 => intro aR wR mR hR hI; replace hR := hR.undrew; intro v64 h64 e64; replace e64 : v64 = .slice (some ⟨b2, o2, none⟩) n2 rc2 := e64; subst e64; intro v65 h65 e65; replace e65 : v65 = .int .i64 (i : Int) := e65; subst e65; exact exec_val (c := .pointer (some ⟨b2, o2 + i, none⟩)) (wanted_none rfl) (by go_simp) rfl
                case o8 => intro aR wR mR hR hI; replace hR := hR.undrew; intro v66 h66 e66; replace e66 : v66 = .pointer (some ⟨b2, o2 + i, none⟩) := e66; subst e66; (have h1 := (HX2.out wR (HKDg.out wR hR)).2); exact exec_val (c := .int .i64 z) (wanted_none rfl) (by go_simp) rfl
                case o9 => intro aR wR mR hR hI; replace hR := hR.undrew; intro v67 h67 e67; replace e67 : v67 = .int .i64 z := e67; subst e67; exact exec_do (c := .slice (some ⟨wR.heap.size, 0, none⟩) 1 1) (w' := wR.alloc (.cells #[.int .i64 z] 2)) (wanted_none rfl) (by go_simp) ⟨_, 1, rfl, own_one1 hR.size (heap_alloc_at rfl)⟩ ((Kp.refl [] _).alloc _)
                case o10 => intro aR wR hR hI; replace hR := hR.undrew; intro v60 h60 e60; replace e60 : v60 = .slice ua t uc := e60; subst e60; intro v68 h68 e68; obtain ⟨ad9, cap9, rfl, ho9⟩ := e68; exact exec_app_or (wanted_none rfl) (.tmp 60) (.tmp 68) 32 32 rfl w5.heap.size 8 Try.underlying32 infoI64 ua uc t Zsg HZNg.out [z] (.slice ad9 1 cap9) 1 rfl (by go_simp) (by go_simp) (AppI.off hI) (src_rd ho9.rd Try.underlying32) (by omega) (by omega) (fun w' hr g1 g2 => ⟨.inl ⟨hr, rfl⟩, g2, AppI.room hr g1⟩) (fun ad' cap' w' hc g1 g2 => ⟨.inr ⟨ad', cap', hc, rfl, g1.mono hR.size⟩, g2.wide (by simp), AppI.grow hc ((AppI.off hI).keep0 g2)⟩)
                case o11 => intro aR wR mR hR hI; replace hR := hR.undrew; intro (h7 : aR.tmps[7]? = some (.pointer (some ⟨b7, 0, none⟩))); exact exec_val (c := .pointer (some ⟨b7, 4, none⟩)) (wanted_none rfl) (by go_simp) rfl
              · intro vs wR hR hI hV
                obtain ⟨e0, e1, e2, e3, e4, e5, e6, e7, e8, e9, e10, e11, -⟩ := hV
                replace e0 : vs 0 = .pointer (some ⟨b7, 4, none⟩) := e0
                replace e1 : vs 1 = .slice ua t uc := e1
                replace e2 : vs 2 = .slice (some ⟨b1, o1, none⟩) mn mc := e2
                replace e3 : vs 3 = .int .i64 (t : Int) := e3
                replace e4 : vs 4 = .pointer (some ⟨b1, o1 + t, none⟩) := e4
                replace e5 : vs 5 = .slice (some ⟨b2, o2, none⟩) n2 rc2 := e5
                replace e6 : vs 6 = .int .i64 (i : Int) := e6
                replace e7 : vs 7 = .pointer (some ⟨b2, o2 + i, none⟩) := e7
                replace e8 : vs 8 = .int .i64 z := e8
                replace e11 : vs 11 = .pointer (some ⟨b7, 4, none⟩) := e11
                simp only [putAll, List.take_succ_cons, List.take_zero, List.drop_succ_cons, List.drop_zero, e0, e1, e2, e3, e4, e5, e6, e7, e8, e11, Nat.reduceAdd, Nat.zero_add]
                clear e0 e1 e2 e3 e4 e5 e6 e7 e8 e11
                try simp only [List.setIfInBounds_toArray, List.set_cons_succ, List.set_cons_zero]
                simp only [Nat.reduceAdd, Nat.zero_add] at e10
                obtain ⟨ua', uc', hv10, os', hob10⟩ := app_res (hS := HLTg) HI7.out.kp.size e10 hI
                rw [hv10]
                have cS := arow_cell (hR.get HROWg.out HNSg.out) 4 rfl
                have fS := frozen_of_row wR b7 4 _ _ (hR.get HROWg.out HNSg.out)
                have HI8 := Lib.hid (HI7.out.setG HZ3.out (by rw [← HZSg.out]; exact os') hR hob10)
                generalize vs 9 = v9g
                clear e10 hv10 os' hob10 hI hR
                clear e9
                clear HLTg
                go_wp2_with fail
                go_roundw
                case rel => exact ⟨t + 1, qa', qc', ra', rc', ua', uc', hlt, by go_num, HI8⟩
                case measure => simp [intOf]; omega
        · obtain rfl : mn = t := by omega
          have HRF := Lib.hid HI.out.row
          have hall : Z.take mn = Z := List.take_of_length_le (by rw [HZL.out]; exact Nat.le_refl _)
          have hw3 := K3.out.size
          have hw5 : w.heap.size ≤ w5.heap.size := (HW5.out w5 (Kp.refl _ _)).size
          have HR6 : Hid (wt.heap[p6]? = some (.cells #[.slice none 0 0, .int .i64 0, .slice none 0 0, .slice none 0 0, .slice none 0 0] 34)) := Lib.hid (HI.out.kp.get (K5.out.get R6.out (by simp; exact HPS.out.2.2.1)) (by simp; exact HPS.out.2.2.1))
          have HOW : Hid (RaOwn wt w.heap.size ⟨ids, ia, ic, 1, Z, qa, qc, ra, rc, ua, uc⟩) := Lib.hid ⟨((HIA.out.keep HI.out.kp (fun b hb hb2 => by simp at hb2; subst hb2; exact ownI_ne HIA.out G5.out (by decide) hb))).mono hw3,
            by have := HI.out.os; rw [hall] at this; exact this.mono hw5, by have := HI.out.ol; rw [hall] at this; exact this.mono hw5, by have := HI.out.og; rw [hall] at this; exact this.mono hw5⟩
          have HKF := Lib.hid (HW5.out wt HI.out.kp)
          clear hall hw5 hw3
          go_wp2_with first
            | (refine wpList_load_row rfl 34 _ rfl b7 rfl 34 #[.slice ia sn ic, .int .i64 1, .slice qa mn qc, .slice ra mn rc, .slice ua mn uc] (0, 0) _ HRF.out Try.underlying34 rfl (by kernel_rfl) ?_)
            | (refine wpList_store_row rfl 34 _ _ rfl p6 #[.slice ia sn ic, .int .i64 1, .slice qa mn qc, .slice ra mn rc, .slice ua mn uc] rfl rfl 34 _ HR6.out (by kernel_rfl) rfl (by simp [Value.oneCell']) ?_)
          refine bodyPost_ret (v := .agg #[.slice ia sn ic, .int .i64 1, .slice qa mn qc, .slice ra mn rc, .slice ua mn uc]) (results_cell_row Try.results42 _ _ p6 34 #[.slice ia sn ic, .int .i64 1, .slice qa mn qc, .slice ra mn rc, .slice ua mn uc] (0, 0) _ rfl (setRow_heap _ p6 _ _ _ _ HR6.out) Try.underlying34 rfl (by kernel_rfl)) rfl ?_
          refine ⟨⟨ids, ia, ic, 1, Z, qa, qc, ra, rc, ua, uc⟩, by
            show Ending.returned (Value.agg #[.slice ia sn ic, .int .i64 1, .slice qa mn qc, .slice ra mn rc, .slice ua mn uc]) = .returned (.agg #[.slice ia ids.length ic, .int .i64 1, .slice qa Z.length qc, .slice ra Z.length rc, .slice ua Z.length uc])
            rw [HIL.out, HZL.out], ?_, ?_, HKF.out.setRowF _ _ (.inr HPS.out.1)⟩
          · show (⟨ids, 1, Z⟩ : PR) = rowPR (lis S) (lis D) i
            rw [HIDS.out, HZ.out]; rfl
          · exact HOW.out.keep (S := [p6]) ((Kp.refl [p6] wt).setRowF _ _ (.inl (by simp))) (fun b hb => by simp at hb; subst hb; exact .inr ⟨_, _, HR6.out⟩)
end Go.Proofs.Ythmaobmgogmaoaa
namespace Go.Proofs.Ythmaobmgogmaoaa
open Go.RowKit Go.Shelf
set_option linter.unusedSimpArgs false
set_option linter.unusedVariables false
set_option maxRecDepth 100000

/-- Ids with stars in the first columns that are not grouped by. -/
def starJ (by' : List Bool) (ids : List Int) (t : Nat) : List Int := (List.range ids.length).map fun j => if j < t ∧ nthF by' j = false then -1 else nth ids j
def starI (by' : List Bool) (ids : List Int) : List Int := starJ by' ids ids.length
def starPR (by' : List Bool) (x : PR) : PR := ⟨starI by' x.ids, x.cnt, x.ms⟩
theorem starJ_len (by' : List Bool) (ids : List Int) (t : Nat) : (starJ by' ids t).length = ids.length := by simp [starJ]
theorem starI_len (by' : List Bool) (ids : List Int) : (starI by' ids).length = ids.length := starJ_len _ _ _
theorem starJ_zero (by' : List Bool) (ids : List Int) : starJ by' ids 0 = ids := by
  refine List.ext_getElem (starJ_len _ _ _) fun j h1 h2 => ?_
  simp [starJ, nth, h2]
theorem starJ_step (by' : List Bool) (ids : List Int) (t : Nat) : starJ by' ids (t + 1) = if nthF by' t = false then (starJ by' ids t).set t (-1) else starJ by' ids t := by
  split
  · next h =>
    refine List.ext_getElem (by rw [List.length_set, starJ_len, starJ_len]) fun j h1 h2 => ?_
    rw [List.getElem_set]
    by_cases e : t = j
    · subst e
      simp [starJ, h]
    · simp only [if_neg e, starJ, List.getElem_map, List.getElem_range]
      by_cases h3 : j < t
      · simp [h3, show j < t + 1 by omega]
      · simp [h3, show ¬ j < t + 1 by omega]
  · next h =>
    refine List.ext_getElem (by rw [starJ_len, starJ_len]) fun j h1 h2 => ?_
    simp only [starJ, List.getElem_map, List.getElem_range]
    by_cases h3 : j < t
    · simp [h3, show j < t + 1 by omega]
    · by_cases e : j = t
      · subst e; simp [h]
      · simp [h3, show ¬ j < t + 1 by omega]
theorem starI_set {by' : List Bool} {j : Nat} (h : nthF by' j = false) (ids : List Int) : starI by' (ids.set j (-1)) = starI by' ids := by
  unfold starI
  refine List.ext_getElem (by rw [starJ_len, starJ_len, List.length_set]) fun i h1 h2 => ?_
  rw [starJ_len] at h2
  simp only [starJ, List.getElem_map, List.getElem_range, List.length_set]
  by_cases e : i = j
  · subst e; simp [h, h2]
  · rw [show nth (ids.set j (-1)) i = nth ids i by unfold nth; rw [List.getD_eq_getElem?_getD, List.getD_eq_getElem?_getD, List.getElem?_set_ne (by omega)]]
/-- What stands while stars are set. -/
structure StrI (w1 : World) (p2 : Nat) (by' : List Bool) (ids : List Int) (ia : Option Addr) (ic : Nat) (rest : List Value) (k t : Nat) (wr : World) : Prop where
  row : wr.heap[p2]? = some (.cells (Value.slice ia k ic :: rest).toArray 34)
  oi : Own wr w1.heap.size 3 .i64 ia ic (starJ by' ids t)
  kp : Kp [p2] w1 wr
theorem StrI.set {w1 : World} {p2 g : Nat} {by' : List Bool} {ids : List Int} {ic : Nat} {rest : List Value} {k t : Nat} {wr : World} (h : StrI w1 p2 by' ids (some ⟨g, 0, none⟩) ic rest k t wr) (hb : nthF by' t = false) (ht : t < ids.length) : StrI w1 p2 by' ids (some ⟨g, 0, none⟩) ic rest k (t + 1) (wr.setCell ⟨g, t, none⟩ (.int .i64 (-1))) := by
  obtain ⟨g2, q, -, -, hg1, hg2⟩ := h.oi.at' (i := t) (by rw [starJ_len]; exact ht)
  cases q
  have hne : p2 ≠ g := fun e => ownI_ne h.oi h.row (by decide) (e ▸ hg2)
  refine ⟨((Kp.refl [g] wr).setCell _ _ (by simp)).get h.row (by simp; exact hne), by rw [starJ_step, if_pos hb]; exact h.oi.set t (-1), h.kp.trans ((Kp.refl [g] wr).setCell _ _ (by simp)) (fun _ h => .inl h) (fun b hb => .inr (by simp at hb; subst hb; exact hg1))⟩
theorem StrI.skip {w1 : World} {p2 : Nat} {ia : Option Addr} {by' : List Bool} {ids : List Int} {ic : Nat} {rest : List Value} {k t : Nat} {wr : World} (h : StrI w1 p2 by' ids ia ic rest k t wr) (hb : ¬ nthF by' t = false) : StrI w1 p2 by' ids ia ic rest k (t + 1) wr :=
  ⟨h.row, by rw [starJ_step, if_neg hb]; exact h.oi, h.kp⟩

set_option maxHeartbeats 6400000 in
theorem r20Starred_any (x : Ra) (ba : Option Addr) (bn bc : Nat) (by' : List Bool) (hn : bn = by'.length) (hk : bn = x.ids.length) (hb : bn ≤ 1000) (w : World) (hx : RaRd w x) (hby : RdF w ba bc by') :
    Calls Try.prog 33 #[raV x, .slice ba bn bc] w fun e w' => ∃ z : Ra, e = .returned (raV z) ∧ z.pr = starPR by' x.pr ∧ RaRd w' z ∧ Kp [] w w' := by
  obtain ⟨ids, ia, ic, cnt, ms, sa, sc, ma, mc, ga, gc⟩ := x
  obtain ⟨mm, hmm⟩ : ∃ mm, mm = ms.length := ⟨_, rfl⟩
  have HML := Lib.hid hmm
  have HK : Hid (bn = ids.length) := Lib.hid hk
  have HX := Lib.hid hx
  have HBY := Lib.hid hby
  have HBN := Lib.hid hn
  have hbc : bn ≤ bc := by rw [hn]; exact hby.1
  have hbc2 : bc ≤ 9223372036854775807 := hby.2.1
  simp only [raV]
  rw [← hmm, ← HK.out]
  have hic : bn ≤ ic ∧ ic ≤ 9223372036854775807 := ⟨by rw [HK.out]; exact hx.1.1, hx.1.2.1⟩
  clear hmm hk hx hby hn
  go_enter Try.func33, Try.ntmps33
  go_upto_region 1 with (fail)
  obtain ⟨p2, hp2⟩ : ∃ p, p = w.heap.size := ⟨_, rfl⟩
  obtain ⟨p4, hp4⟩ : ∃ p, p = w.heap.size + 1 := ⟨_, rfl⟩
  obtain ⟨w1, hw1⟩ : ∃ w1, w1 = (w.alloc (Obj.cells #[.slice ia bn ic, .int .i64 cnt, .slice sa mm sc, .slice ma mm mc, .slice ga mm gc] 34)).alloc (Obj.cells #[.slice none 0 0, .int .i64 0, .slice none 0 0, .slice none 0 0, .slice none 0 0] 34) := ⟨_, rfl⟩
  rw [← hw1, ← hp4, ← hp2]
  have k1 : Kp [] w w1 := by rw [hw1]; exact ((Kp.refl [] w).alloc _).alloc _
  have r2 : w1.heap[p2]? = some (.cells #[.slice ia bn ic, .int .i64 cnt, .slice sa mm sc, .slice ma mm mc, .slice ga mm gc] 34) := by rw [hw1]; exact cells_alloc (heap_alloc_at hp2)
  have r4 : w1.heap[p4]? = some (.cells #[.slice none 0 0, .int .i64 0, .slice none 0 0, .slice none 0 0, .slice none 0 0] 34) := by rw [hw1]; exact heap_alloc_at (by simp [hp4])
  have R2 := Lib.hid r2
  have R4 := Lib.hid r4
  have K1 := Lib.hid k1
  have HPS : Hid (w.heap.size ≤ p2 ∧ w.heap.size ≤ p4 ∧ p4 ≠ p2 ∧ p4 < w1.heap.size ∧ p2 < w1.heap.size) := Lib.hid ⟨by omega, by omega, by omega, lt_of_heap r4, lt_of_heap r2⟩
  have c1 := arow_cell (cells_alloc (o := .cells #[] 3) r2) 0 rfl
  clear hw1 hp2 hp4 r2 r4 k1
  go_upto_region 2 with (at_builtin; refine wpList_app rfl (.tmp 6) (.tmp 8) 23 23 rfl w1.heap.size 3 .i64 8 Try.underlying23 infoInt (some ⟨w1.heap.size, 0, none⟩) 0 0 [] rfl ids _ bn HK.out rfl rfl (.inl ⟨rfl, rfl⟩) (by rw [HK.out]; exact src_rd (HX.out.1.keep0 (K1.out.alloc _)) Try.underlying23) (by omega) (by omega) (by simp) ?_; intro ia1 ic1 w2 ho kp hob _; have HO2 := Lib.hid ho; have HK2 : Hid (Kp [] w1 w2) := Lib.hid (((Kp.refl [] w1).alloc _).tr kp); have HR2 := Lib.hid (HK2.out.get R2.out (by simp)); have cS := arow_cell HR2.out 0 rfl; have fS := frozen_of_row w2 p2 0 _ _ HR2.out; clear ho kp hob)
  have HI0 : Hid (StrI w1 p2 by' ids ia1 ic1 [.int .i64 cnt, .slice sa mm sc, .slice ma mm mc, .slice ga mm gc] bn 0 (w2.setCell ⟨p2, 0, none⟩ (.slice ia1 bn ic1))) := Lib.hid (by
    have kz : Kp [p2] w2 (w2.setCell ⟨p2, 0, none⟩ (.slice ia1 bn ic1)) := (Kp.refl [p2] w2).setCell _ _ (by simp)
    refine ⟨by rw [heap_setCell_same w2 p2 0 _ _ _ HR2.out]; rfl, ?_, HK2.out.trans kz (by simp) (fun _ h => .inl h)⟩
    rw [starJ_zero]
    exact HO2.out.keep kz (fun b hb hb2 => by simp at hb2; subst hb2; exact ownI_ne HO2.out HR2.out (by decide) hb))
  generalize w2.setCell ⟨p2, 0, none⟩ (.slice ia1 bn ic1) = w3 at *
  clear c1 cS fS
  go_wp2_with fail
  go_loopw [5] (fun vi wr => ∃ (t : Nat), t ≤ bn ∧ vi = .int .i64 t ∧ Hid (StrI w1 p2 by' ids ia1 ic1 [.int .i64 cnt, .slice sa mm sc, .slice ma mm mc, .slice ga mm gc] bn t wr)) (fun vi _ => bn - (intOf vi).toNat)
  case atStart => exact ⟨0, Nat.zero_le _, rfl, HI0⟩
  case round =>
    obtain ⟨t, ht, rfl, HI⟩ := hrel
    obtain ⟨wt, rfl⟩ : ∃ wt : World, wt = wr := ⟨_, rfl⟩
    have cR := arow_cell HI.out.row 0 rfl
    have hrd := HI.out.oi.rd
    have hic1 : bn ≤ ic1 ∧ ic1 ≤ 9223372036854775807 := ⟨by have := hrd.1; rw [starJ_len, ← HK.out] at this; exact this, hrd.2.1⟩
    clear hrd
    have HKW : Hid (Kp [] w wt) := Lib.hid (K1.out.trans HI.out.kp (by simp) (fun b hb => .inr (by simp at hb; subst hb; exact HPS.out.1)))
    by_cases hlt : t < bn
    · obtain ⟨bb, bo, rfl, cb⟩ := (HBY.out.keep0 HKW.out).at' t (by rw [← HBN.out]; exact hlt)
      obtain ⟨g, hg, cg, fg, -, -⟩ := HI.out.oi.at' (i := t) (by rw [starJ_len, ← HK.out]; exact hlt)
      subst hg
      have hltd : decide ((t : Int) < (bn : Int)) = true := by simp; omega
      obtain ⟨q, hq⟩ : ∃ q, q = nthF by' t := ⟨_, rfl⟩
      rw [← hq] at cb
      have HQ := Lib.hid hq
      clear hq
      generalize nth (starJ by' ids t) t = vg at cg
      cases q
      · have HIN := Lib.hid (HI.out.set HQ.out.symm (by rw [← HK.out]; exact hlt))
        go_wp2_with fail
        go_roundw
        case rel => exact ⟨t + 1, hlt, by go_num, HIN⟩
        case measure => simp [intOf]; omega
      · have HIN := Lib.hid (HI.out.skip (by rw [← HQ.out]; simp))
        go_wp2_with fail
        go_roundw
        case rel => exact ⟨t + 1, hlt, by go_num, HIN⟩
        case measure => simp [intOf]; omega
    · obtain rfl : bn = t := by omega
      have hltd : decide ((bn : Int) < (bn : Int)) = false := by simp
      have HRF := Lib.hid HI.out.row
      have HR4 : Hid (wt.heap[p4]? = some (.cells #[.slice none 0 0, .int .i64 0, .slice none 0 0, .slice none 0 0, .slice none 0 0] 34)) := Lib.hid (HI.out.kp.get R4.out (by simp; exact HPS.out.2.2.1))
      go_wp2_with first
        | (refine wpList_load_row rfl 34 _ rfl p2 rfl 34 #[.slice ia1 bn ic1, .int .i64 cnt, .slice sa mm sc, .slice ma mm mc, .slice ga mm gc] (0, 0) _ HRF.out Try.underlying34 rfl (by kernel_rfl) ?_)
        | (refine wpList_store_row rfl 34 _ _ rfl p4 #[.slice ia1 bn ic1, .int .i64 cnt, .slice sa mm sc, .slice ma mm mc, .slice ga mm gc] rfl rfl 34 _ HR4.out (by kernel_rfl) rfl (by simp [Value.oneCell']) ?_)
      refine bodyPost_ret (v := .agg #[.slice ia1 bn ic1, .int .i64 cnt, .slice sa mm sc, .slice ma mm mc, .slice ga mm gc]) (results_cell_row Try.results33 _ _ p4 34 #[.slice ia1 bn ic1, .int .i64 cnt, .slice sa mm sc, .slice ma mm mc, .slice ga mm gc] (0, 0) _ rfl (setRow_heap _ p4 _ _ _ _ HR4.out) Try.underlying34 rfl (by kernel_rfl)) rfl ?_
      have hkz : Kp [] w (wt.setRow p4 #[.slice ia1 bn ic1, .int .i64 cnt, .slice sa mm sc, .slice ma mm mc, .slice ga mm gc]) := HKW.out.setRowF _ _ (.inr HPS.out.2.1)
      have hl : (starJ by' ids bn).length = bn := by rw [starJ_len, HK.out]
      have hx := HX.out.keep0 hkz
      refine ⟨⟨starJ by' ids bn, ia1, ic1, cnt, ms, sa, sc, ma, mc, ga, gc⟩, ?_, ?_, ⟨?_, hx.2.1, hx.2.2.1, hx.2.2.2⟩, hkz⟩
      · show Ending.returned (Value.agg #[.slice ia1 bn ic1, .int .i64 cnt, .slice sa mm sc, .slice ma mm mc, .slice ga mm gc]) = .returned (.agg #[.slice ia1 (starJ by' ids bn).length ic1, .int .i64 cnt, .slice sa ms.length sc, .slice ma ms.length mc, .slice ga ms.length gc])
        rw [hl, ← HML.out]
      · show (⟨starJ by' ids bn, cnt, ms⟩ : PR) = ⟨starI by' ids, cnt, ms⟩
        rw [HK.out]; rfl
      · exact (HI.out.oi.keep (S := [p4]) ((Kp.refl [p4] wt).setRowF _ _ (.inl (by simp))) (fun b hb hb2 => by simp at hb2; subst hb2; exact ownI_ne HI.out.oi HR4.out (by decide) hb)).rd
end Go.Proofs.Ythmaobmgogmaoaa
namespace Go.Proofs.Ythmaobmgogmaoaa
open Go.RowKit Go.Shelf
set_option linter.unusedSimpArgs false
set_option linter.unusedVariables false
set_option maxRecDepth 100000

/-- What rows come to. -/
def grpP (F : List (List Bool)) (by' : List Bool) (rows : List PR) : List PR := (rows.filter fun x => okRec F x.ids).map (starPR by')
/-- Whether the first ids may be. -/
def okTo (F : List (List Bool)) (ids : List Int) (j : Nat) : Bool := (List.range j).all fun j => allowedB (rowF F j) (nth ids j)
theorem okTo_step (F : List (List Bool)) (ids : List Int) (j : Nat) : okTo F ids (j + 1) = (okTo F ids j && allowedB (rowF F j) (nth ids j)) := by
  unfold okTo
  rw [List.range_succ, List.all_append]; simp
theorem okTo_all (F : List (List Bool)) (ids : List Int) {k : Nat} (h : k = ids.length) : okTo F ids k = okRec F ids := by subst h; rfl
theorem rowsP_take (S M : List (List Int)) {i : Nat} (h : i < (S.getD 0 []).length) : (rowsP S M).take (i + 1) = (rowsP S M).take i ++ [rowPR S M i] := take_snoc (by
  unfold rowsP
  rw [List.getElem?_map, List.getElem?_range h]; rfl)
theorem grpP_snoc (F : List (List Bool)) (by' : List Bool) (l : List PR) (x : PR) : togP (grpP F by' (l ++ [x])) = if okRec F x.ids = true then putP (togP (grpP F by' l)) (starPR by' x) else togP (grpP F by' l) := by
  unfold grpP togP
  rw [List.filter_append, List.map_append, List.foldl_append]
  by_cases h : okRec F x.ids = true
  · rw [if_pos h]; simp [List.filter_cons, h]
  · rw [if_neg h]; simp [List.filter_cons, h]
theorem grp_len (F : List (List Bool)) (by' : List Bool) (l : List PR) (i : Nat) : (togP (grpP F by' (l.take i))).length ≤ i := by
  refine Nat.le_trans (togP_len _) ?_
  unfold grpP
  rw [List.length_map]
  refine Nat.le_trans (List.length_filter_le _ _) ?_
  rw [List.length_take]; omega
/-- A list of records that one may go on with. -/
structure LiI (w1 : World) (k mt : Nat) (oa : Option Addr) (oc : Nat) (YS : List Ra) (w : World) : Prop where
  rd : RdS racells 5 w oa oc YS
  el : ∀ z ∈ YS, RaRd w z ∧ z.ids.length = k ∧ z.ms.length = mt
  kp : Kp [] w1 w
theorem LiI.keep0 {w1 : World} {k mt : Nat} {oa : Option Addr} {oc : Nat} {YS : List Ra} {w w' : World} (h : LiI w1 k mt oa oc YS w) (hk : Kp [] w w') : LiI w1 k mt oa oc YS w' := ⟨RdS.keep0 h.rd ralies.len hk, fun z hz => ⟨(h.el z hz).1.keep0 hk, (h.el z hz).2⟩, h.kp.tr hk⟩
theorem LiI.nil (w : World) (k mt : Nat) : LiI w k mt none 0 [] w := ⟨(OwnS.nil racells 5 w 0 34).rd ralies, by simp, Kp.refl _ _⟩

set_option maxHeartbeats 6400000 in
theorem r20Groups_any (sa : Option Addr) (sn sc : Nat) (S : List Ih) (hS : sn = S.length) (ma : Option Addr) (mn mc : Nat) (D : List Ih) (hD : mn = D.length) (fa : Option Addr) (fc : Nat) (F : List Bh) (hF : sn = F.length) (ba : Option Addr) (bc : Nat) (by' : List Bool) (hB : sn = by'.length)
    (n : Nat) (hn : (rowP (lis S) 0).length = n) (h1 : ∀ t, t < sn → (rowP (lis S) t).length = n) (h2 : ∀ t, t < mn → (rowP (lis D) t).length = n) (hb : 1 ≤ sn ∧ sn ≤ 10 ∧ mn ≤ 10 ∧ n ≤ 80) (w : World) (hs : RdI w sa sc S) (hd : RdI w ma mc D) (hf : RdM w fa fc F) (hy : RdF w ba bc by') :
    Calls Try.prog 34 #[.slice sa sn sc, .slice ma mn mc, .slice fa sn fc, .slice ba sn bc] w fun e w' => ∃ oa oc YS, e = .returned (.slice oa YS.length oc) ∧ LiI w sn mn oa oc YS w' ∧ YS.map Ra.pr = togP (grpP (lisF F) by' (rowsP (lis S) (lis D))) := by
  obtain ⟨hb1, hb2, hb3, hb4⟩ := hb
  have HSN := Lib.hid hS
  have HDN := Lib.hid hD
  have HFN := Lib.hid hF
  have HBN := Lib.hid hB
  have HSR := Lib.hid hs
  have HDR := Lib.hid hd
  have HFR := Lib.hid hf
  have HYR := Lib.hid hy
  have hsc : sn ≤ sc := by rw [hS]; exact hs.1.1
  have hsc2 : sc ≤ 9223372036854775807 := hs.1.2.1
  have hfc : sn ≤ fc := by rw [hF]; exact hf.1.1
  have hfc2 : fc ≤ 9223372036854775807 := hf.1.2.1
  obtain ⟨b0, o0, ra0, rn0, rc0, hsa, hc0, hn0, hr0⟩ := hs.at' 0 (by rw [← hS]; omega)
  subst hsa
  rw [hn] at hn0
  subst hn0
  have H1 := Lib.hid h1
  have H2 := Lib.hid h2
  have HC0 : Hid (∀ W, Kp [] w W → W.cell? ⟨b0, o0 + 0, none⟩ = some (.slice ra0 rn0 rc0) ∧ W.cell? ⟨b0, o0, none⟩ = some (.slice ra0 rn0 rc0)) := Lib.hid (fun W hW => ⟨hW.cell hc0 (by simp), hW.cell hc0 (by simp)⟩)
  obtain ⟨Rw, hRw⟩ : ∃ Rw, Rw = rowsP (lis S) (lis D) := ⟨_, rfl⟩
  have HRW := Lib.hid hRw
  have HRL : Hid (Rw.length = rn0) := Lib.hid (by rw [hRw]; unfold rowsP; rw [List.length_map, List.length_range]; exact hn)
  have HST : Hid (∀ i, i < rn0 → Rw.take (i + 1) = Rw.take i ++ [rowPR (lis S) (lis D) i]) := Lib.hid (fun i hi => by rw [hRw]; exact rowsP_take _ _ (by rw [← hn] at hi; exact hi))
  rw [← hRw]
  clear hS hD hF hB hs hd hf hy h1 h2 hc0 hr0 hRw hn
  go_enter Try.func34, Try.ntmps34
  go_wp2_with fail
  go_loopw [9, 10] (fun vo vi wr => ∃ (i : Nat) (oa : Option Addr) (oc : Nat) (YS : List Ra), i ≤ rn0 ∧ vi = .int .i64 i ∧ vo = .slice oa YS.length oc ∧ Hid (LiI w sn mn oa oc YS wr) ∧ Hid (YS.map Ra.pr = togP (grpP (lisF F) by' (Rw.take i)))) (fun _ vi _ => rn0 - (intOf vi).toNat)
  case atStart => exact ⟨0, none, 0, [], Nat.zero_le _, rfl, rfl, Lib.hid (LiI.nil _ _ _), Lib.hid rfl⟩
  case round =>
    obtain ⟨i, oa, oc, YS, hi, rfl, rfl, HI, HYS⟩ := hrel
    obtain ⟨wo, rfl⟩ : ∃ wo : World, wo = wr := ⟨_, rfl⟩
    obtain ⟨c0, c0b⟩ := HC0.out wo HI.out.kp
    obtain ⟨yn, hyn⟩ : ∃ yn, yn = YS.length := ⟨_, rfl⟩
    have HYN := Lib.hid hyn
    have hyl : yn ≤ 100000 := by
      have := grp_len (lisF F) by' Rw i
      rw [← HYS.out, List.length_map, ← hyn] at this
      omega
    rw [← hyn]
    clear hyn
    by_cases hlt : i < rn0
    · obtain ⟨IDS, hIDS⟩ : ∃ IDS, IDS = (rowPR (lis S) (lis D) i).ids := ⟨_, rfl⟩
      have HIDS := Lib.hid hIDS
      have HIL : Hid (IDS.length = sn) := Lib.hid (by rw [hIDS]; show ((lis S).map _).length = sn; rw [List.length_map, lis, List.length_map, HSN.out])
      have HIN : Hid (∀ j, j < sn → nth IDS j = nth (rowP (lis S) j) i) := Lib.hid (fun j hj => by
        rw [hIDS]
        show nth ((lis S).map fun l => nth l i) j = _
        have hj2 : j < (lis S).length := by rw [lis, List.length_map, ← HSN.out]; exact hj
        unfold rowP
        rw [nth, List.getD_eq_getElem?_getD, List.getElem?_map, List.getElem?_eq_getElem hj2, List.getD_eq_getElem?_getD, List.getElem?_eq_getElem hj2]; rfl)
      clear hIDS
      go_wp2_with fail
      go_loopw [11, 12] (fun vk vj wx => ∃ (j : Nat), j ≤ sn ∧ vj = .int .i64 j ∧ vk = .bool (okTo (lisF F) IDS j) ∧ Hid (Kp [] wo wx)) (fun _ vj _ => sn - (intOf vj).toNat)
      case atStart => exact ⟨0, Nat.zero_le _, rfl, rfl, Lib.hid (Kp.refl _ _)⟩
      case round =>
        obtain ⟨j, hj, rfl, rfl, HKJ⟩ := hrel
        obtain ⟨wj, rfl⟩ : ∃ wj : World, wj = wr := ⟨_, rfl⟩
        have HW := Lib.hid (HI.out.kp.tr HKJ.out)
        by_cases hlj : j < sn
        · obtain ⟨b1, o1, b2, o2, n2, rc2, hsa, hn1, hn2, hn3, hx⟩ := HSR.out.two (t := j) (i := i) (by rw [← HSN.out]; exact hlj) (by rw [H1.out j hlj]; exact hlt)
          cases hsa
          obtain ⟨b3, o3, ra3, n3, rc3, hfa, cf, hn3', hrf⟩ := HFR.out.at' j (by rw [← HFN.out]; exact hlj)
          subst hfa
          rw [← HIN.out j hlj] at hx
          have hstep := okTo_step (lisF F) IDS j
          have HAL0 : Hid (∀ W, Kp [] w W → Calls Try.prog 51 #[.slice ra3 n3 rc3, .int .i64 (nth IDS j)] W fun e w' => e = .returned (.bool (allowedB (rowF (lisF F) j) (nth IDS j))) ∧ w' = W) := Lib.hid (fun W hW => r20Allowed_any ra3 n3 rc3 _ hn3' (nth IDS j) W (hrf.keep0 hW))
          have HCF : Hid (∀ W, Kp [] w W → W.cell? ⟨b3, o3 + j, none⟩ = some (.slice ra3 n3 rc3)) := Lib.hid (fun W hW => hW.cell cf (by simp))
          generalize allowedB (rowF (lisF F) j) (nth IDS j) = q at *
          generalize nth IDS j = xv at hx HAL0
          have HX := Lib.hid hx
          have HSTEP := Lib.hid hstep
          generalize okTo (lisF F) IDS j = ok at *
          clear hx cf hrf hn3' hstep
          go_upto_region 9 with (fail)
          cases ok
          · skip
            refine wp_region_K (by kernel_rfl) [.val (.bool false), .val (.bool false), .val (undef), .val (undef), .val (undef), .val (undef), .val (undef), .val (undef), .val (undef), .val (undef), .val (undef), .val (undef), .val (undef), .val (undef), .val ((.bool false)), .val ((.bool false))] [[(11, none)], [(27, some 0)], [(28, some 1)], [(28, some 1)], [(28, some 1)], [(28, some 1)], [(28, some 1)], [(28, some 1)], [(28, some 1)], [(28, some 1)], [(28, some 1)], [(28, some 1)], [(28, some 1)], [(28, some 1)], [(28, some 1), (40, some 13)], [(41, some 14)]] rfl (by kernel_rfl) ?_ ?_
            · refine ⟨?o0, ?o1, ?o2, ?o3, ?o4, ?o5, ?o6, ?o7, ?o8, ?o9, ?o10, ?o11, ?o12, ?o13, ?o14, ?o15, trivial⟩
              case o0 => intro aR wR hR; replace hR := hR.undrew; intro (h11 : aR.tmps[11]? = some (.bool false)); exact exec_val (c := .bool false) (wanted_none rfl) (by go_simp) rfl
              case o1 => intro aR wR hR; replace hR := hR.undrew; intro v27 h27 e27; replace e27 : v27 = .bool false := e27; subst e27; exact exec_val (c := .bool false) (wanted_none rfl) (by go_simp) rfl
              case o2 => intro aR wR hR; replace hR := hR.undrew; intro v28 h28 e28; replace e28 : v28 = .bool false := e28; subst e28; exact exec_pass (wanted_not (b := true) (t := 28) rfl rfl h28) rfl
              case o3 => intro aR wR hR; replace hR := hR.undrew; intro v28 h28 e28; replace e28 : v28 = .bool false := e28; subst e28; exact exec_pass (wanted_not (b := true) (t := 28) rfl rfl h28) rfl
              case o4 => intro aR wR hR; replace hR := hR.undrew; intro v28 h28 e28; replace e28 : v28 = .bool false := e28; subst e28; exact exec_pass (wanted_not (b := true) (t := 28) rfl rfl h28) rfl
              case o5 => intro aR wR hR; replace hR := hR.undrew; intro v28 h28 e28; replace e28 : v28 = .bool false := e28; subst e28; exact exec_pass (wanted_not (b := true) (t := 28) rfl rfl h28) rfl
              case o6 => intro aR wR hR; replace hR := hR.undrew; intro v28 h28 e28; replace e28 : v28 = .bool false := e28; subst e28; exact exec_pass (wanted_not (b := true) (t := 28) rfl rfl h28) rfl
              case o7 => intro aR wR hR; replace hR := hR.undrew; intro v28 h28 e28; replace e28 : v28 = .bool false := e28; subst e28; exact exec_pass (wanted_not (b := true) (t := 28) rfl rfl h28) rfl
              case o8 => intro aR wR hR; replace hR := hR.undrew; intro v28 h28 e28; replace e28 : v28 = .bool false := e28; subst e28; exact exec_pass (wanted_not (b := true) (t := 28) rfl rfl h28) rfl
              case o9 => intro aR wR hR; replace hR := hR.undrew; intro v28 h28 e28; replace e28 : v28 = .bool false := e28; subst e28; exact exec_pass (wanted_not (b := true) (t := 28) rfl rfl h28) rfl
              case o10 => intro aR wR hR; replace hR := hR.undrew; intro v28 h28 e28; replace e28 : v28 = .bool false := e28; subst e28; exact exec_pass (wanted_not (b := true) (t := 28) rfl rfl h28) rfl
              case o11 => intro aR wR hR; replace hR := hR.undrew; intro v28 h28 e28; replace e28 : v28 = .bool false := e28; subst e28; exact exec_pass (wanted_not (b := true) (t := 28) rfl rfl h28) rfl
              case o12 => intro aR wR hR; replace hR := hR.undrew; intro v28 h28 e28; replace e28 : v28 = .bool false := e28; subst e28; exact exec_pass (wanted_not (b := true) (t := 28) rfl rfl h28) rfl
              case o13 => intro aR wR hR; replace hR := hR.undrew; intro v28 h28 e28; replace e28 : v28 = .bool false := e28; subst e28; exact exec_pass (wanted_not (b := true) (t := 28) rfl rfl h28) rfl
              case o14 => intro aR wR hR; replace hR := hR.undrew; intro v28 h28 e28; replace e28 : v28 = .bool false := e28; subst e28; intro v40 h40 e40; replace e40 : v40 = undef := e40; subst e40; exact exec_val (c := (.bool false)) (wanted_none rfl) (by go_simp) rfl
              case o15 => intro aR wR hR; replace hR := hR.undrew; intro v41 h41 e41; replace e41 : v41 = (.bool false) := e41; subst e41; exact exec_val (c := (.bool false)) (wanted_none rfl) (by go_simp) rfl
            · intro vs wR hR hV
              obtain ⟨e0, e1, e2, e3, e4, e5, e6, e7, e8, e9, e10, e11, e12, e13, e14, e15, -⟩ := hV
              replace e0 : vs 0 = .bool false := e0
              replace e1 : vs 1 = .bool false := e1
              replace e2 : vs 2 = undef := e2
              replace e3 : vs 3 = undef := e3
              replace e4 : vs 4 = undef := e4
              replace e5 : vs 5 = undef := e5
              replace e6 : vs 6 = undef := e6
              replace e7 : vs 7 = undef := e7
              replace e8 : vs 8 = undef := e8
              replace e9 : vs 9 = undef := e9
              replace e10 : vs 10 = undef := e10
              replace e11 : vs 11 = undef := e11
              replace e12 : vs 12 = undef := e12
              replace e13 : vs 13 = undef := e13
              replace e14 : vs 14 = (.bool false) := e14
              replace e15 : vs 15 = (.bool false) := e15
              simp only [putAll, e0, e1, e2, e3, e4, e5, e6, e7, e8, e9, e10, e11, e12, e13, e14, e15, Nat.reduceAdd, Nat.zero_add]
              clear e0 e1 e2 e3 e4 e5 e6 e7 e8 e9 e10 e11 e12 e13 e14 e15
              try simp only [List.setIfInBounds_toArray, List.set_cons_succ, List.set_cons_zero]
              go_wp2_with fail
              go_roundw
              case rel => exact ⟨j + 1, hlj, by go_num, by rw [HSTEP.out]; rfl, Lib.hid (HKJ.out.tr hR)⟩
              case measure => simp [intOf]; omega
          · skip
            refine wp_region_K (by kernel_rfl) [.val (.bool true), .val (.bool true), .val (.slice (some ⟨b3, o3, none⟩) sn fc), .val (.int .i64 (j : Int)), .val (.pointer (some ⟨b3, o3 + j, none⟩)), .val (.slice ra3 n3 rc3), .val (.slice (some ⟨b0, o0, none⟩) sn sc), .val (.int .i64 (j : Int)), .val (.pointer (some ⟨b0, o0 + j, none⟩)), .val (.slice (some ⟨b2, o2, none⟩) n2 rc2), .val (.int .i64 (i : Int)), .val (.pointer (some ⟨b2, o2 + i, none⟩)), .val (.int .i64 xv), .val (.bool q), .val (.bool q), .val (.bool q)] [[(11, none)], [(27, some 0)], [(28, some 1), (2, none)], [(28, some 1), (12, none)], [(28, some 1), (29, some 2), (30, some 3)], [(28, some 1), (31, some 4)], [(28, some 1), (0, none)], [(28, some 1), (12, none)], [(28, some 1), (33, some 6), (34, some 7)], [(28, some 1), (35, some 8)], [(28, some 1), (10, none)], [(28, some 1), (36, some 9), (37, some 10)], [(28, some 1), (38, some 11)], [(28, some 1), (32, some 5), (39, some 12)], [(28, some 1), (40, some 13)], [(41, some 14)]] rfl (by kernel_rfl) ?_ ?_
            · refine ⟨?o0, ?o1, ?o2, ?o3, ?o4, ?o5, ?o6, ?o7, ?o8, ?o9, ?o10, ?o11, ?o12, ?o13, ?o14, ?o15, trivial⟩
              case o0 => intro aR wR hR; replace hR := hR.undrew; intro (h11 : aR.tmps[11]? = some (.bool true)); exact exec_val (c := .bool true) (wanted_none rfl) (by go_simp) rfl
              case o1 => intro aR wR hR; replace hR := hR.undrew; intro v27 h27 e27; replace e27 : v27 = .bool true := e27; subst e27; exact exec_val (c := .bool true) (wanted_none rfl) (by go_simp) rfl
              case o2 => intro aR wR hR; replace hR := hR.undrew; intro v28 h28 e28; replace e28 : v28 = .bool true := e28; subst e28; intro (h2 : aR.tmps[2]? = some (.slice (some ⟨b3, o3, none⟩) sn fc)); exact exec_val (c := .slice (some ⟨b3, o3, none⟩) sn fc) (wanted_yes (b := true) (t := 28) rfl rfl h28) (by go_simp) rfl
              case o3 => intro aR wR hR; replace hR := hR.undrew; intro v28 h28 e28; replace e28 : v28 = .bool true := e28; subst e28; intro (h12 : aR.tmps[12]? = some (.int .i64 (j : Int))); exact exec_val (c := .int .i64 (j : Int)) (wanted_yes (b := true) (t := 28) rfl rfl h28) (by go_simp) rfl
              case o4 => intro aR wR hR; replace hR := hR.undrew; intro v28 h28 e28; replace e28 : v28 = .bool true := e28; subst e28; intro v29 h29 e29; replace e29 : v29 = .slice (some ⟨b3, o3, none⟩) sn fc := e29; subst e29; intro v30 h30 e30; replace e30 : v30 = .int .i64 (j : Int) := e30; subst e30; exact exec_val (c := .pointer (some ⟨b3, o3 + j, none⟩)) (wanted_yes (b := true) (t := 28) rfl rfl h28) (by go_simp) rfl
              case o5 => intro aR wR hR; replace hR := hR.undrew; intro v28 h28 e28; replace e28 : v28 = .bool true := e28; subst e28; intro v31 h31 e31; replace e31 : v31 = .pointer (some ⟨b3, o3 + j, none⟩) := e31; subst e31; (have h1 := HCF.out wR (HW.out.tr hR)); exact exec_val (c := .slice ra3 n3 rc3) (wanted_yes (b := true) (t := 28) rfl rfl h28) (by go_simp) rfl
              case o6 => intro aR wR hR; replace hR := hR.undrew; intro v28 h28 e28; replace e28 : v28 = .bool true := e28; subst e28; intro (h0 : aR.tmps[0]? = some (.slice (some ⟨b0, o0, none⟩) sn sc)); exact exec_val (c := .slice (some ⟨b0, o0, none⟩) sn sc) (wanted_yes (b := true) (t := 28) rfl rfl h28) (by go_simp) rfl
              case o7 => intro aR wR hR; replace hR := hR.undrew; intro v28 h28 e28; replace e28 : v28 = .bool true := e28; subst e28; intro (h12 : aR.tmps[12]? = some (.int .i64 (j : Int))); exact exec_val (c := .int .i64 (j : Int)) (wanted_yes (b := true) (t := 28) rfl rfl h28) (by go_simp) rfl
              case o8 => intro aR wR hR; replace hR := hR.undrew; intro v28 h28 e28; replace e28 : v28 = .bool true := e28; subst e28; intro v33 h33 e33; replace e33 : v33 = .slice (some ⟨b0, o0, none⟩) sn sc := e33; subst e33; intro v34 h34 e34; replace e34 : v34 = .int .i64 (j : Int) := e34; subst e34; exact exec_val (c := .pointer (some ⟨b0, o0 + j, none⟩)) (wanted_yes (b := true) (t := 28) rfl rfl h28) (by go_simp) rfl
              case o9 => intro aR wR hR; replace hR := hR.undrew; intro v28 h28 e28; replace e28 : v28 = .bool true := e28; subst e28; intro v35 h35 e35; replace e35 : v35 = .pointer (some ⟨b0, o0 + j, none⟩) := e35; subst e35; (have h1 := (HX.out wR (HW.out.tr hR)).1); exact exec_val (c := .slice (some ⟨b2, o2, none⟩) n2 rc2) (wanted_yes (b := true) (t := 28) rfl rfl h28) (by go_simp) rfl
              case o10 => intro aR wR hR; replace hR := hR.undrew; intro v28 h28 e28; replace e28 : v28 = .bool true := e28; subst e28; intro (h10 : aR.tmps[10]? = some (.int .i64 (i : Int))); exact exec_val (c := .int .i64 (i : Int)) (wanted_yes (b := true) (t := 28) rfl rfl h28) (by go_simp) rfl
              case o11 => intro aR wR hR; replace hR := hR.undrew; intro v28 h28 e28; replace e28 : v28 = .bool true := e28; subst e28; intro v36 h36 e36; replace e36 : v36 = .slice (some ⟨b2, o2, none⟩) n2 rc2 := e36; subst e36; intro v37 h37 e37; replace e37 : v37 = .int .i64 (i : Int) := e37; subst e37; exact exec_val (c := .pointer (some ⟨b2, o2 + i, none⟩)) (wanted_yes (b := true) (t := 28) rfl rfl h28) (by go_simp) rfl
              case o12 => intro aR wR hR; replace hR := hR.undrew; intro v28 h28 e28; replace e28 : v28 = .bool true := e28; subst e28; intro v38 h38 e38; replace e38 : v38 = .pointer (some ⟨b2, o2 + i, none⟩) := e38; subst e38; (have h1 := (HX.out wR (HW.out.tr hR)).2); exact exec_val (c := .int .i64 xv) (wanted_yes (b := true) (t := 28) rfl rfl h28) (by go_simp) rfl
              case o13 => intro aR wR hR; replace hR := hR.undrew; intro v28 h28 e28; replace e28 : v28 = .bool true := e28; subst e28; intro v32 h32 e32; replace e32 : v32 = .slice ra3 n3 rc3 := e32; subst e32; intro v39 h39 e39; replace e39 : v39 = .int .i64 xv := e39; subst e39; refine exec_call (wanted_yes (b := true) (t := 28) rfl rfl h28) (by go_simp; exact ⟨rfl, rfl⟩) ?_; refine (HAL0.out wR (HW.out.tr hR)).mono ?_; rintro e7 w8 ⟨rfl, rfl⟩; exact ⟨_, rfl, rfl, Kp.refl _ _⟩
              case o14 => intro aR wR hR; replace hR := hR.undrew; intro v28 h28 e28; replace e28 : v28 = .bool true := e28; subst e28; intro v40 h40 e40; replace e40 : v40 = .bool q := e40; subst e40; exact exec_val (c := .bool q) (wanted_none rfl) (by go_simp) rfl
              case o15 => intro aR wR hR; replace hR := hR.undrew; intro v41 h41 e41; replace e41 : v41 = .bool q := e41; subst e41; exact exec_val (c := .bool q) (wanted_none rfl) (by go_simp) rfl
            · intro vs wR hR hV
              obtain ⟨e0, e1, e2, e3, e4, e5, e6, e7, e8, e9, e10, e11, e12, e13, e14, e15, -⟩ := hV
              replace e0 : vs 0 = .bool true := e0
              replace e1 : vs 1 = .bool true := e1
              replace e2 : vs 2 = .slice (some ⟨b3, o3, none⟩) sn fc := e2
              replace e3 : vs 3 = .int .i64 (j : Int) := e3
              replace e4 : vs 4 = .pointer (some ⟨b3, o3 + j, none⟩) := e4
              replace e5 : vs 5 = .slice ra3 n3 rc3 := e5
              replace e6 : vs 6 = .slice (some ⟨b0, o0, none⟩) sn sc := e6
              replace e7 : vs 7 = .int .i64 (j : Int) := e7
              replace e8 : vs 8 = .pointer (some ⟨b0, o0 + j, none⟩) := e8
              replace e9 : vs 9 = .slice (some ⟨b2, o2, none⟩) n2 rc2 := e9
              replace e10 : vs 10 = .int .i64 (i : Int) := e10
              replace e11 : vs 11 = .pointer (some ⟨b2, o2 + i, none⟩) := e11
              replace e12 : vs 12 = .int .i64 xv := e12
              replace e13 : vs 13 = .bool q := e13
              replace e14 : vs 14 = .bool q := e14
              replace e15 : vs 15 = .bool q := e15
              simp only [putAll, e0, e1, e2, e3, e4, e5, e6, e7, e8, e9, e10, e11, e12, e13, e14, e15, Nat.reduceAdd, Nat.zero_add]
              clear e0 e1 e2 e3 e4 e5 e6 e7 e8 e9 e10 e11 e12 e13 e14 e15
              try simp only [List.setIfInBounds_toArray, List.set_cons_succ, List.set_cons_zero]
              go_wp2_with fail
              go_roundw
              case rel => exact ⟨j + 1, hlj, by go_num, by rw [HSTEP.out]; rfl, Lib.hid (HKJ.out.tr hR)⟩
              case measure => simp [intOf]; omega
        · obtain rfl : sn = j := by omega
          have HOK : Hid (okTo (lisF F) IDS sn = okRec (lisF F) IDS) := Lib.hid (okTo_all _ _ HIL.out.symm)
          have HSN2 : Hid (togP (grpP (lisF F) by' (Rw.take (i + 1))) = if okRec (lisF F) IDS = true then putP (YS.map Ra.pr) (starPR by' (rowPR (lis S) (lis D) i)) else YS.map Ra.pr) := Lib.hid (by
            rw [HST.out i hlt, grpP_snoc, HYS.out, HIDS.out])
          rw [HOK.out]
          generalize okRec (lisF F) IDS = ok at *
          have HI2 := Lib.hid (HI.out.keep0 HKJ.out)
          cases ok
          · go_wp2_with fail
            go_roundw
            case rel => exact ⟨i + 1, oa, oc, YS, hlt, by go_num, by rw [HYN.out], HI2, Lib.hid (by rw [HSN2.out]; rfl)⟩
            case measure => simp [intOf]; omega
          · have HRC := Lib.hid (r19Row_any (some ⟨b0, o0, none⟩) sn sc S HSN.out ma mn mc D HDN.out i (fun t ht => by rw [H1.out t ht]; exact hlt) (fun t ht => by rw [H2.out t ht]; exact hlt) (by omega) wj (HSR.out.keep0 HW.out) (HDR.out.keep0 HW.out))
            go_wp2_with fail
            refine HRC.out.mono ?_
            rintro _ w5 ⟨z, rfl, hz, ho, kp5⟩
            have HZ := Lib.hid hz
            have HZO := Lib.hid ho.rd
            have HK5 := Lib.hid kp5
            have HZL : Hid (sn = z.ids.length ∧ z.ms.length = mn) := Lib.hid ⟨by
              rw [← HIL.out, HIDS.out, ← hz]; rfl, by
              have : z.ms = _ := congrArg PR.ms hz
              rw [this]; show ((lis D).map _).length = mn; rw [List.length_map, lis, List.length_map, HDN.out]⟩
            have HSC := Lib.hid (r20Starred_any z ba sn bc by' HBN.out HZL.out.1 (by omega) w5 HZO.out (HYR.out.keep0 (HW.out.tr kp5)))
            clear hz ho kp5 HRC
            go_wp2_with fail
            refine HSC.out.mono ?_
            rintro _ w6 ⟨z2, rfl, hz2, hr2, kp6⟩
            have HZ2 : Hid (z2.pr = starPR by' (rowPR (lis S) (lis D) i)) := Lib.hid (by rw [hz2, HZ.out])
            have HI6 := Lib.hid (HI2.out.keep0 (HK5.out.tr kp6))
            have HZ2L : Hid (z2.ids.length = sn ∧ z2.ms.length = mn) := Lib.hid ⟨by
              have : z2.ids = _ := congrArg PR.ids hz2
              rw [this]; show (starI by' z.ids).length = sn; rw [starI_len]; exact HZL.out.1.symm, by
              have : z2.ms = _ := congrArg PR.ms hz2
              rw [this]; exact HZL.out.2⟩
            have HPC := Lib.hid (r19Put_any oa yn oc YS HYN.out hyl z2 sn mn (by omega) (by omega) (fun x hx => (HI6.out.el x hx).2) HZ2L.out w6 HI6.out.rd (fun x hx => (HI6.out.el x hx).1) hr2)
            clear hz2 hr2 kp6 HSC
            go_wp2_with fail
            refine HPC.out.mono ?_
            rintro _ w7 ⟨oa2, oc2, YS2, rfl, ho7, he7, hm7, kp7⟩
            have HI7 : Hid (LiI w sn mn oa2 oc2 YS2 w7) := Lib.hid ⟨ho7.rd ralies, he7, HI6.out.kp.tr kp7⟩
            have HM7 : Hid (YS2.map Ra.pr = togP (grpP (lisF F) by' (Rw.take (i + 1)))) := Lib.hid (by rw [hm7, HZ2.out, HSN2.out]; rfl)
            clear ho7 he7 hm7 kp7 HPC
            go_wp2_with fail
            go_roundw
            case rel => exact ⟨i + 1, oa2, oc2, YS2, hlt, by go_num, rfl, HI7, HM7⟩
            case measure => simp [intOf]; omega
    · obtain rfl : rn0 = i := by omega
      have HT : Hid (Rw.take rn0 = Rw) := Lib.hid (List.take_of_length_le (by rw [HRL.out]; exact Nat.le_refl _))
      go_wp2_with fail
      go_ret
      exact ⟨oa, oc, YS, by rw [← HYN.out]; rfl, HI.out, by rw [HYS.out, HT.out]⟩
end Go.Proofs.Ythmaobmgogmaoaa
