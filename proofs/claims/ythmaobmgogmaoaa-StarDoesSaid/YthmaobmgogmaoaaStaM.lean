/-
  Star-trees: Of, walked.
-/
import Derived.Test.YthmaobmgogmaoaaStaL
namespace Go.Proofs.Ythmaobmgogmaoaa
open Go.RowKit Go.Shelf
set_option linter.unusedSimpArgs false
set_option linter.unusedVariables false
set_option maxRecDepth 100000

/-- What Of tells. -/
def OfPost (S M : List (List Int)) (many : List Int) (leaf : Int) (w : World) (e : Ending) (w' : World) : Prop :=
  Kp [] w w' ∧ ((mayS S many M leaf = false ∧ e = .returned (.tuple #[.pointer none, .int .i64 2])) ∨
    (mayS S many M leaf = true ∧ ∃ (T lf : Nat), e = .returned (.tuple #[.pointer (some ⟨T, 0, none⟩), .int .i64 0]) ∧ leaf = (lf : Int) ∧ w.heap.size ≤ T ∧
      ∃ ra rc RL na nc NL, TreeH T S.length M.length lf w.heap.size (fun _ => False) ra rc RL na nc NL w' ∧ (⟨RL.map (pr S.length), NL.map pn⟩ : St) = ofP S M lf))

/-- Putting together what the call owns. -/
theorem stTogO_any (k mt B : Nat) (ado : Option Addr) (capo n : Nat) (RL : List Rc) (hn : n = RL.length) (hNb : n ≤ 100000) (hk : k ≤ 8) (hmt : mt ≤ 1000) (w : World) (h : OwnS Rc.cells 10 w B 82 ado capo RL) (hg : ∀ x ∈ RL, Good k mt B w x) :
    Calls Try.prog 36 #[.slice ado n capo] w (TogPost k mt (RL.map (pr k)) (ob ado capo) w) := by
  subst hn
  by_cases hne : RL = []
  · subst hne
    refine (stTog0_any ado capo w).mono ?_
    rintro e w' ⟨rfl, kp⟩
    exact ⟨none, 0, [], rfl, OwnS.nil _ _ _ _ _, rfl, by simp, kp.wide (by simp)⟩
  · obtain ⟨g, rfl, hB, hg2, hm, hdat, hc1, hc2⟩ := dat_own h hne
    refine (stTog_any g RL.length capo k mt RL rfl hNb hc1 hc2 hk hmt (fun x hx => ?_) w hdat (fun x hx => (hg x hx).rd)).mono ?_
    · obtain ⟨g1, g2, g3, g4⟩ := hg x hx
      refine ⟨g1, g2, fun a ha hs hb => ?_⟩
      have h5 : g ∈ ob x.sa x.sc := by
        rcases g4 with ⟨-, h6⟩ | ⟨q, cur, h6, h7, h8, h9, h10, -⟩
        · exact (hs h6).elim
        · rw [h6] at ha; cases ha
          dsimp only at hb
          subst hb
          have : ¬ x.sc = 0 := by have := List.length_pos_iff.2 hs; omega
          rw [h6]; simp [ob, this]
      exact ownApart g4 h (fun e => tRec_tSum e.symm) _ h5 hm
    · rintro e w' ⟨oa, oc, R, h1, h2, h3, h4, h5⟩
      exact ⟨oa, oc, R, h1, h2, h3, h4, h5.wide (fun x hx => by simp at hx; subst hx; exact hm)⟩

set_option maxHeartbeats 6400000 in
theorem stOf_any (sa : Option Addr) (sn sc : Nat) (S : List Ih) (hS : sn = S.length) (ma : Option Addr) (mn mc : Nat) (many : List Int) (hM : mn = many.length) (da : Option Addr) (dn dc : Nat) (D : List Ih) (hD : dn = D.length) (leaf : Int) (w : World) (hs : RdI w sa sc S) (hm : Rd w .i64 ma mc many) (hd : RdI w da dc D) (hrows : (rowP (lis S) 0).length ≤ 80) :
    Calls Try.prog 13 #[.slice sa sn sc, .slice ma mn mc, .slice da dn dc, .int .i64 leaf] w (OfPost (lis S) (lis D) many leaf w) := by
  have HMAY := Lib.hid (stMay_any sa sn sc S hS ma mn mc many hM da dn dc D hD leaf w hs hm hd)
  have HS := Lib.hid hs
  have HD := Lib.hid hd
  have HSN := Lib.hid hS
  have HDN := Lib.hid hD
  have HROW := Lib.hid hrows
  clear hs hm hd hS hM hD hrows
  obtain ⟨v, hv⟩ : ∃ v, v = mayS (lis S) many (lis D) leaf := ⟨_, rfl⟩
  rw [← hv] at HMAY
  have HV := Lib.hid hv
  clear hv
  go_enter Try.func13, Try.ntmps13
  go_wp2_with fail
  refine HMAY.out.mono ?_
  rintro e w1 ⟨rfl, kp1⟩
  cases v
  · go_wp2_with fail
    go_ret2
    exact ⟨kp1, .inl ⟨HV.out.symm, rfl⟩⟩
  · have hok := mayS_ok HV.out.symm
    have hSl : (lis S).length = sn := by rw [HSN.out]; simp [lis]
    have hDl : (lis D).length = dn := by rw [HDN.out]; simp [lis]
    rw [hSl, hDl] at hok
    obtain ⟨g1, g2, -, g4, g5, g6, g7, g8⟩ := hok
    have HCOL := Lib.hid (fun j hj => (g7 j hj).1)
    have HMET := Lib.hid g8
    obtain ⟨lf, rfl⟩ : ∃ lf : Nat, leaf = (lf : Int) := ⟨leaf.toNat, by omega⟩
    have HSL := Lib.hid hSl
    have HDL := Lib.hid hDl
    have K1 := Lib.hid kp1
    clear kp1 g7 g8 hSl hDl
    obtain ⟨b, off, ra, r0, rc0, rfl, d0, hr0, -⟩ := (HS.out.keep0 K1.out).at' 0 (by rw [← HSN.out]; omega)
    replace d0 : w1.cell? ⟨b, off, none⟩ = some (.slice ra r0 rc0) := d0
    have D0 := Lib.hid d0
    have hr80 : r0 ≤ 80 := by rw [hr0]; exact HROW.out
    have HR0 := Lib.hid hr0
    clear hr0
    go_upto_region 6 with (fail)
    obtain ⟨T, hT⟩ : ∃ T, T = w1.heap.size := ⟨_, rfl⟩
    obtain ⟨w2, hw2⟩ : ∃ w2, w2 = w1.alloc (Obj.cells (treeC sn dn lf none 0 0 none 0 0) 59) := ⟨_, rfl⟩
    have ht2 : w2.heap[T]? = some (.cells (treeC sn dn lf none 0 0 none 0 0) 59 (0, 0)) := by rw [hw2]; exact heap_alloc_at hT
    have k2 : Kp [] w1 w2 := by rw [hw2]; exact (Kp.refl [] w1).alloc _
    have HTW : Hid (T < w2.heap.size ∧ w.heap.size ≤ T ∧ w2.heap.size = T + 1) := Lib.hid ⟨lt_of_heap ht2, by rw [hT]; exact K1.out.size, by rw [hw2, World.size_alloc, hT]⟩
    unfold treeC at hw2
    rw [← hw2, ← hT]
    have HT2 := Lib.hid ht2
    have K2 := Lib.hid (K1.out.tr k2)
    have d2 := k2.cell D0.out (by simp)
    have D2 := Lib.hid d2
    have hsn8 : sn ≤ 8 := g2
    have hdn : dn ≤ 256 := g4
    clear hw2 hT ht2 k2 D0 d0
    go_wp2_with fail
    go_loopw [11, 41] (fun vo vi wr => ∃ (i : Nat) (ado : Option Addr) (capo : Nat) (RL : List Rc), i ≤ r0 ∧ vi = .int .i64 i ∧ vo = .slice ado i capo ∧ Hid (RowsI sn dn w2.heap.size (lis S) (lis D) i w2 ado capo RL wr)) (fun _ vi _ => r0 - (intOf vi).toNat)
    case atStart => exact ⟨0, none, 0, [], Nat.zero_le _, rfl, rfl, Lib.hid ⟨OwnS.nil _ _ _ _ _, rfl, rfl, by simp, Kp.refl _ _⟩⟩
    case round =>
      obtain ⟨i, ado, capo, RL, hi, rfl, rfl, HI⟩ := hrel
      obtain ⟨wo, rfl⟩ : ∃ wo : World, wo = wr := ⟨_, rfl⟩
      by_cases hlt : i < r0
      · go_upto_region 11 with (refine wpList_store_row rfl 82 _ _ rfl wo.heap.size #[.int .i64 0, .int .i64 0, .int .i64 0, .int .i64 0, .int .i64 0, .int .i64 0, .int .i64 0, .int .i64 0, .int .i64 1, .slice none 0 0] rfl rfl 82 _ (heap_alloc_at rfl) (by kernel_rfl) rfl (by simp [Value.oneCell']) ?_)
        obtain ⟨px, hpx⟩ : ∃ px, px = wo.heap.size := ⟨_, rfl⟩
        generalize hz : (wo.alloc (Obj.cells _ _)).setRow _ _ = w4
        rw [← hpx] at hz ⊢
        have hp4 : w4.heap[px]? = some (.cells (recJ (lis S) i 0 none 0 0 []).cells.toArray 82) := by rw [← hz]; exact setRow_heap _ px _ _ _ _ (heap_alloc_at hpx)
        have k4 : Kp [] wo w4 := by rw [← hz]; exact ((Kp.refl [] wo).alloc _).setRowF _ _ (.inr (by omega))
        have HP4 := Lib.hid hp4
        have K4 := Lib.hid k4
        have HPX := Lib.hid hpx
        clear hz hp4 k4 hpx
        go_wp2_with fail
        go_loopw [47] (fun vj wr => ∃ j : Nat, j ≤ sn ∧ vj = .int .i64 j ∧ Hid (wr.heap[px]? = some (.cells (recJ (lis S) i j none 0 0 []).cells.toArray 82)) ∧ Hid (Kp [] wo wr)) (fun vj _ => sn - (intOf vj).toNat)
        case atStart => exact ⟨0, Nat.zero_le _, rfl, HP4, K4⟩
        case round =>
          obtain ⟨j, hj, rfl, HPJ, HKJ⟩ := hrel
          obtain ⟨wj, rfl⟩ : ∃ wj : World, wj = wr := ⟨_, rfl⟩
          by_cases hlj : j < sn
          · have hkw : Kp [] w wj := (K2.out.tr HI.out.kp).tr HKJ.out
            obtain ⟨b', off', xa, xn, xc, hq, e0, hxn, hxr⟩ := (HS.out.keep0 hkw).at' j (by rw [← HSN.out]; exact hlj)
            cases hq
            have hxn2 : xn = r0 := by rw [hxn, HCOL.out j hlj, ← HR0.out]
            subst hxn2
            obtain ⟨b2, off2, rfl, e1⟩ := hxr.2.2 i (by rw [← hxn]; exact hlt)
            have hxc : xn ≤ xc := by rw [hxn]; exact hxr.1
            obtain ⟨x, hx⟩ : ∃ x, x = nth (rowP (lis S) j) i := ⟨_, rfl⟩
            rw [← hx] at e1
            have hj8 : j < 8 := by omega
            have cj : wj.cell? ⟨px, j, none⟩ = some (.int .i64 ((recJ (lis S) i j none 0 0 []).ids j)) := by
              rw [cell_of_row wj px j _ _ _ HPJ.out]
              simpa using cells_id (recJ (lis S) i j none 0 0 []) hj8
            have fj := frozen_of_row wj px j _ _ HPJ.out
            have HP5 : Hid ((wj.setCell ⟨px, j, none⟩ (.int .i64 x)).heap[px]? = some (.cells (recJ (lis S) i (j + 1) none 0 0 []).cells.toArray 82)) := Lib.hid (by
              rw [heap_setCell_same wj px j _ _ _ HPJ.out, recJ_step _ _ _ hj8 _ hx])
            have HK5 : Hid (Kp [] wo (wj.setCell ⟨px, j, none⟩ (.int .i64 x))) := Lib.hid (HKJ.out.setCell _ _ (.inr (by rw [HPX.out]; exact Nat.le_refl _)))
            clear hkw hxn hxr hx
            generalize (recJ (lis S) i j none 0 0 []).ids j = y0 at cj
            go_wp2_with fail
            go_roundw
            case rel => exact ⟨j + 1, hlj, by go_num, HP5, HK5⟩
            case measure => simp [intOf]; omega
          · obtain rfl : j = sn := by omega
            go_wp2_with fail
            go_loopw [63] (fun vt wr => ∃ (t : Nat) (za : Option Addr) (zc : Nat) (zs : List S3), t ≤ dn ∧ vt = .int .i64 t ∧ Hid (zs = ((lis D).take t).map (s3of i)) ∧ Hid (wr.heap[px]? = some (.cells (recJ (lis S) i j za t zc []).cells.toArray 82)) ∧ Hid (OwnS s3cells 3 wr wo.heap.size 84 za zc zs) ∧ Hid (Kp [] wo wr)) (fun vt _ => dn - (intOf vt).toNat)
            case atStart => exact ⟨0, none, 0, [], Nat.zero_le _, rfl, Lib.hid rfl, HPJ, Lib.hid (OwnS.nil _ _ _ _ _), HKJ⟩
            case round =>
              obtain ⟨t, za, zc, zs, ht, rfl, HZS, HPT, HZO, HKT⟩ := hrel
              obtain ⟨wt, rfl⟩ : ∃ wt : World, wt = wr := ⟨_, rfl⟩
              by_cases hlt2 : t < dn
              · have hkw : Kp [] w wo := K2.out.tr HI.out.kp
                have htD : t < D.length := by rw [← HDN.out]; exact hlt2
                obtain ⟨b3, off3, xa, xn, xc, rfl, e0, hxn, hxr⟩ := (HD.out.keep0 hkw).at' t htD
                have hxn2 : xn = r0 := by
                  rw [hxn, HR0.out, rowP_lis D t htD]
                  exact HMET.out _ (List.mem_map_of_mem (List.getElem_mem htD))
                subst hxn2
                obtain ⟨b2, off2, rfl, e1⟩ := hxr.2.2 i (by rw [← hxn]; exact hlt)
                have hxc : xn ≤ xc := by rw [hxn]; exact hxr.1
                have hxc2 := hxr.2.1
                obtain ⟨x, hx⟩ : ∃ x, x = nth (rowP (lis D) t) i := ⟨_, rfl⟩
                rw [← hx] at e1
                have HZS2 : Hid (zs ++ [⟨x, x, x⟩] = ((lis D).take (t + 1)).map (s3of i)) := Lib.hid (by
                  rw [List.take_succ_eq_append_getElem (by simp [lis]; exact htD), List.map_append, ← HZS.out, hx]
                  simp [s3of, rowP, htD, lis])
                have hzl : t = zs.length := by rw [HZS.out]; simp [lis]; omega
                have HZL := Lib.hid hzl
                have HB2 : Hid (b2 < wo.heap.size ∧ ∀ y ∈ ob za zc, wo.heap.size ≤ y ∧ y < wt.heap.size) := Lib.hid ⟨World.block_lt_of_cell? wo _ e1, HZO.out.ob_ge⟩
                have E1 : Hid (wt.cell? ⟨b2, off2 + i, none⟩ = some (.int .i64 x)) := Lib.hid (HKT.out.cell e1 (by simp))
                have e0 := HKT.out.cell e0 (by simp)
                have HPM : Hid (∀ y ∈ ob za zc, y ≠ px) := Lib.hid (fun y hy e => by subst e; exact own_ne HZO.out HPT.out (by decide) hy)
                have E9 : Hid (wt.cell? ⟨px, 9, none⟩ = some (.slice za t zc)) := Lib.hid (by rw [cell_of_row wt px 9 _ _ _ HPT.out]; rfl)
                have hs9 := HKT.out.size
                have HNA : Hid (∀ (W : World) (za' : Option Addr) (zc' : Nat), W.heap[px]? = some (.cells (recJ (lis S) i j za t zc []).cells.toArray 82) → (W.setCell ⟨px, 9, none⟩ (.slice za' (t + 1) zc')).heap[px]? = some (.cells (recJ (lis S) i j za' (t + 1) zc' []).cells.toArray 82)) := Lib.hid (fun W za' zc' h => by
                  rw [heap_setCell_same W px 9 _ _ _ h]; rfl)
                clear hkw hxn hxr hx hzl e1
                go_upto_region 19 with (fail)
                by_cases hroom : t + 1 ≤ zc
                · have hSx : ∀ y ∈ ob za zc, y < wt.heap.size := fun y hy => (HB2.out.2 y hy).2
                  refine wp_region_GS (by kernel_rfl) (ob za zc) [.val (.pointer (some ⟨px, 9, none⟩)), .val (.slice za t zc), .val (.slice (some ⟨b2, off2, none⟩) xn xc), .val (.int .i64 (i : Int)), .val (.pointer (some ⟨b2, off2 + i, none⟩)), .val (.int .i64 x), .val (.slice (some ⟨b2, off2, none⟩) xn xc), .val (.int .i64 (i : Int)), .val (.pointer (some ⟨b2, off2 + i, none⟩)), .val (.int .i64 x), .val (.slice (some ⟨b2, off2, none⟩) xn xc), .val (.int .i64 (i : Int)), .val (.pointer (some ⟨b2, off2 + i, none⟩)), .val (.int .i64 x), .val (.agg #[.int .i64 x, .int .i64 x, .int .i64 x]), .oneS s3cells wt.heap.size hSx 84 ⟨x, x, x⟩, .val (.slice za (t + 1) zc), .val (.pointer (some ⟨px, 9, none⟩))] [[(13, none)], [(67, some 0)], [(16, none)], [(12, none)], [(69, some 2), (70, some 3)], [(71, some 4)], [(16, none)], [(12, none)], [(73, some 6), (74, some 7)], [(75, some 8)], [(16, none)], [(12, none)], [(77, some 10), (78, some 11)], [(79, some 12)], [(72, some 5), (76, some 9), (80, some 13)], [(81, some 14)], [(68, some 1), (82, some 15)], [(13, none)]] [16] (fun m wx => OwnS s3cells 3 wx wo.heap.size 84 za zc (zs ++ [(⟨x, x, x⟩ : S3)].take m)) 18 rfl (by kernel_rfl) (by kernel_rfl) (by kernel_rfl) (by kernel_rfl) (by kernel_rfl) (by simp) (fun _ _ _ h k => h.keep0 k) (by simpa using HZO.out) ?_ ?_
                  · refine (ObG.free rfl ?o0 (ObG.free rfl ?o1 (ObG.free rfl ?o2 (ObG.free rfl ?o3 (ObG.free rfl ?o4 (ObG.free rfl ?o5 (ObG.free rfl ?o6 (ObG.free rfl ?o7 (ObG.free rfl ?o8 (ObG.free rfl ?o9 (ObG.free rfl ?o10 (ObG.free rfl ?o11 (ObG.free rfl ?o12 (ObG.free rfl ?o13 (ObG.free rfl ?o14 (ObG.free rfl ?o15 (ObG.chain 0 rfl ?o16 (ObG.free rfl ?o17 trivial))))))))))))))))))
                    case o0 => intro aR wR mR hR hI; replace hR := hR.undrew; intro (h13 : aR.tmps[13]? = some (.pointer (some ⟨px, 0, none⟩))); exact exec_val (c := .pointer (some ⟨px, 9, none⟩)) (wanted_none rfl) (by go_simp) rfl
                    case o1 => intro aR wR mR hR hI; replace hR := hR.undrew; intro v67 h67 e67; replace e67 : v67 = .pointer (some ⟨px, 9, none⟩) := e67; subst e67; (have h1 := hR.cell E9.out (by intro hx; exact HPM.out px hx rfl)); exact exec_val (c := .slice za t zc) (wanted_none rfl) (by go_simp) rfl
                    case o2 => intro aR wR mR hR hI; replace hR := hR.undrew; intro (h16 : aR.tmps[16]? = some (.slice (some ⟨b2, off2, none⟩) xn xc)); exact exec_val (c := .slice (some ⟨b2, off2, none⟩) xn xc) (wanted_none rfl) (by go_simp) rfl
                    case o3 => intro aR wR mR hR hI; replace hR := hR.undrew; intro (h12 : aR.tmps[12]? = some (.int .i64 (i : Int))); exact exec_val (c := .int .i64 (i : Int)) (wanted_none rfl) (by go_simp) rfl
                    case o4 => intro aR wR mR hR hI; replace hR := hR.undrew; intro v69 h69 e69; replace e69 : v69 = .slice (some ⟨b2, off2, none⟩) xn xc := e69; subst e69; intro v70 h70 e70; replace e70 : v70 = .int .i64 (i : Int) := e70; subst e70; exact exec_val (c := .pointer (some ⟨b2, off2 + i, none⟩)) (wanted_none rfl) (by go_simp) rfl
                    case o5 => intro aR wR mR hR hI; replace hR := hR.undrew; intro v71 h71 e71; replace e71 : v71 = .pointer (some ⟨b2, off2 + i, none⟩) := e71; subst e71; (have h1 := hR.cell E1.out (by intro hx; have h2 := (HB2.out.2 b2 hx).1; have h3 := HB2.out.1; omega)); exact exec_val (c := .int .i64 x) (wanted_none rfl) (by go_simp) rfl
                    case o6 => intro aR wR mR hR hI; replace hR := hR.undrew; intro (h16 : aR.tmps[16]? = some (.slice (some ⟨b2, off2, none⟩) xn xc)); exact exec_val (c := .slice (some ⟨b2, off2, none⟩) xn xc) (wanted_none rfl) (by go_simp) rfl
                    case o7 => intro aR wR mR hR hI; replace hR := hR.undrew; intro (h12 : aR.tmps[12]? = some (.int .i64 (i : Int))); exact exec_val (c := .int .i64 (i : Int)) (wanted_none rfl) (by go_simp) rfl
                    case o8 => intro aR wR mR hR hI; replace hR := hR.undrew; intro v73 h73 e73; replace e73 : v73 = .slice (some ⟨b2, off2, none⟩) xn xc := e73; subst e73; intro v74 h74 e74; replace e74 : v74 = .int .i64 (i : Int) := e74; subst e74; exact exec_val (c := .pointer (some ⟨b2, off2 + i, none⟩)) (wanted_none rfl) (by go_simp) rfl
                    case o9 => intro aR wR mR hR hI; replace hR := hR.undrew; intro v75 h75 e75; replace e75 : v75 = .pointer (some ⟨b2, off2 + i, none⟩) := e75; subst e75; (have h1 := hR.cell E1.out (by intro hx; have h2 := (HB2.out.2 b2 hx).1; have h3 := HB2.out.1; omega)); exact exec_val (c := .int .i64 x) (wanted_none rfl) (by go_simp) rfl
                    case o10 => intro aR wR mR hR hI; replace hR := hR.undrew; intro (h16 : aR.tmps[16]? = some (.slice (some ⟨b2, off2, none⟩) xn xc)); exact exec_val (c := .slice (some ⟨b2, off2, none⟩) xn xc) (wanted_none rfl) (by go_simp) rfl
                    case o11 => intro aR wR mR hR hI; replace hR := hR.undrew; intro (h12 : aR.tmps[12]? = some (.int .i64 (i : Int))); exact exec_val (c := .int .i64 (i : Int)) (wanted_none rfl) (by go_simp) rfl
                    case o12 => intro aR wR mR hR hI; replace hR := hR.undrew; intro v77 h77 e77; replace e77 : v77 = .slice (some ⟨b2, off2, none⟩) xn xc := e77; subst e77; intro v78 h78 e78; replace e78 : v78 = .int .i64 (i : Int) := e78; subst e78; exact exec_val (c := .pointer (some ⟨b2, off2 + i, none⟩)) (wanted_none rfl) (by go_simp) rfl
                    case o13 => intro aR wR mR hR hI; replace hR := hR.undrew; intro v79 h79 e79; replace e79 : v79 = .pointer (some ⟨b2, off2 + i, none⟩) := e79; subst e79; (have h1 := hR.cell E1.out (by intro hx; have h2 := (HB2.out.2 b2 hx).1; have h3 := HB2.out.1; omega)); exact exec_val (c := .int .i64 x) (wanted_none rfl) (by go_simp) rfl
                    case o14 => intro aR wR mR hR hI; replace hR := hR.undrew; intro v72 h72 e72; replace e72 : v72 = .int .i64 x := e72; subst e72; intro v76 h76 e76; replace e76 : v76 = .int .i64 x := e76; subst e76; intro v80 h80 e80; replace e80 : v80 = .int .i64 x := e80; subst e80; exact exec_val (c := .agg #[.int .i64 x, .int .i64 x, .int .i64 x]) (wanted_none rfl) (by go_simp) rfl
                    case o15 => intro aR wR mR hR hI; replace hR := hR.undrew; intro v81 h81 e81; replace e81 : v81 = .agg #[.int .i64 x, .int .i64 x, .int .i64 x] := e81; subst e81; exact exec_do (c := .slice (some ⟨wR.heap.size, 0, none⟩) 1 1) (w' := wR.alloc (.cells #[.int .i64 x, .int .i64 x, .int .i64 x] 84)) (wanted_none rfl) (by go_simp) ⟨_, rfl, hR.size, heap_alloc_at rfl⟩ ((Kp.refl [] _).alloc _)
                    case o16 => intro aR wR hR hI; replace hR := hR.undrew; intro v68 h68 e68; replace e68 : v68 = .slice za t zc := e68; subst e68; intro v82 h82 e82; obtain ⟨b9, rfl, -, h9⟩ := e82; exact execS_room slies (wanted_none rfl) (.tmp 68) (.tmp 82) 80 80 rfl wo.heap.size 84 (.agg #[.int .i64 0, .int .i64 0, .int .i64 0]) 24 Try.underlying80 infoSum rfl za zc t zs HZL.out [⟨x, x, x⟩] _ 1 rfl (by go_simp) (by go_simp) (show OwnS s3cells 3 wR wo.heap.size 84 za zc zs by simpa using hI) (src_oneS slies (x := ⟨x, x, x⟩) Try.underlying80 h9) hroom (fun w' g1 g2 => ⟨rfl, g2, by simpa using g1⟩)
                    case o17 => intro aR wR mR hR hI; replace hR := hR.undrew; intro (h13 : aR.tmps[13]? = some (.pointer (some ⟨px, 0, none⟩))); exact exec_val (c := .pointer (some ⟨px, 9, none⟩)) (wanted_none rfl) (by go_simp) rfl
                  · intro vs wR hR hI hV
                    obtain ⟨e0, e1, e2, e3, e4, e5, e6, e7, e8, e9, e10, e11, e12, e13, e14, e15, e16, e17, -⟩ := hV
                    replace e0 : vs 0 = .pointer (some ⟨px, 9, none⟩) := e0
                    replace e1 : vs 1 = .slice za t zc := e1
                    replace e2 : vs 2 = .slice (some ⟨b2, off2, none⟩) xn xc := e2
                    replace e3 : vs 3 = .int .i64 (i : Int) := e3
                    replace e4 : vs 4 = .pointer (some ⟨b2, off2 + i, none⟩) := e4
                    replace e5 : vs 5 = .int .i64 x := e5
                    replace e6 : vs 6 = .slice (some ⟨b2, off2, none⟩) xn xc := e6
                    replace e7 : vs 7 = .int .i64 (i : Int) := e7
                    replace e8 : vs 8 = .pointer (some ⟨b2, off2 + i, none⟩) := e8
                    replace e9 : vs 9 = .int .i64 x := e9
                    replace e10 : vs 10 = .slice (some ⟨b2, off2, none⟩) xn xc := e10
                    replace e11 : vs 11 = .int .i64 (i : Int) := e11
                    replace e12 : vs 12 = .pointer (some ⟨b2, off2 + i, none⟩) := e12
                    replace e13 : vs 13 = .int .i64 x := e13
                    replace e14 : vs 14 = .agg #[.int .i64 x, .int .i64 x, .int .i64 x] := e14
                    replace e16 : vs 16 = .slice za (t + 1) zc := e16
                    replace e17 : vs 17 = .pointer (some ⟨px, 9, none⟩) := e17
                    simp only [putAll, List.take_succ_cons, List.take_zero, List.drop_succ_cons, List.drop_zero, e0, e1, e2, e3, e4, e5, e6, e7, e8, e9, e10, e11, e12, e13, e14, e16, e17, Nat.reduceAdd, Nat.zero_add]
                    clear e0 e1 e2 e3 e4 e5 e6 e7 e8 e9 e10 e11 e12 e13 e14 e16 e17
                    try simp only [List.setIfInBounds_toArray, List.set_cons_succ, List.set_cons_zero]
                    have hO7 : OwnS s3cells 3 wR wo.heap.size 84 za zc (zs ++ [⟨x, x, x⟩]) := by simpa using hI
                    have hpR := hR.get HPT.out (by intro hx; exact HPM.out px hx rfl)
                    have c9 : wR.cell? ⟨px, 9, none⟩ = some (.slice za t zc) := by rw [cell_of_row wR px 9 _ _ _ hpR]; rfl
                    have f9 := frozen_of_row wR px 9 _ _ hpR
                    have HP9 := Lib.hid (HNA.out wR za zc hpR)
                    have k9 : Kp [px] wR (wR.setCell ⟨px, 9, none⟩ (.slice za (t + 1) zc)) := (Kp.refl [px] wR).setCell _ _ (by simp)
                    have HO9 := Lib.hid (hO7.keep k9 (fun y hy hx => HPM.out y hy (by simpa using hx)))
                    have HK9 : Hid (Kp [] wo (wR.setCell ⟨px, 9, none⟩ (.slice za (t + 1) zc))) := Lib.hid ((HKT.out.trans hR (U := []) (by simp) (fun y hy => .inr (HB2.out.2 y hy).1)).trans k9 (by simp) (fun y hy => by simp at hy; subst hy; exact .inr (by rw [HPX.out]; exact Nat.le_refl _)))
                    clear hO7 hpR k9 hR hI e15
                    go_wp2_with fail
                    go_roundw
                    case rel => exact ⟨t + 1, za, zc, zs ++ [⟨x, x, x⟩], hlt2, by go_num, HZS2, HP9, HO9, HK9⟩
                    case measure => simp [intOf]; omega
                · have hS0 : ∀ y ∈ ([] : List Nat), y < wt.heap.size := by simp
                  refine wp_region_GS (by kernel_rfl) [] [.val (.pointer (some ⟨px, 9, none⟩)), .val (.slice za t zc), .val (.slice (some ⟨b2, off2, none⟩) xn xc), .val (.int .i64 (i : Int)), .val (.pointer (some ⟨b2, off2 + i, none⟩)), .val (.int .i64 x), .val (.slice (some ⟨b2, off2, none⟩) xn xc), .val (.int .i64 (i : Int)), .val (.pointer (some ⟨b2, off2 + i, none⟩)), .val (.int .i64 x), .val (.slice (some ⟨b2, off2, none⟩) xn xc), .val (.int .i64 (i : Int)), .val (.pointer (some ⟨b2, off2 + i, none⟩)), .val (.int .i64 x), .val (.agg #[.int .i64 x, .int .i64 x, .int .i64 x]), .oneS s3cells wt.heap.size hS0 84 ⟨x, x, x⟩, .ownS s3cells 3 wt.heap.size hS0 84 (t + 1) (zs ++ [⟨x, x, x⟩]), .val (.pointer (some ⟨px, 9, none⟩))] [[(13, none)], [(67, some 0)], [(16, none)], [(12, none)], [(69, some 2), (70, some 3)], [(71, some 4)], [(16, none)], [(12, none)], [(73, some 6), (74, some 7)], [(75, some 8)], [(16, none)], [(12, none)], [(77, some 10), (78, some 11)], [(79, some 12)], [(72, some 5), (76, some 9), (80, some 13)], [(81, some 14)], [(68, some 1), (82, some 15)], [(13, none)]] [] (fun _ _ => True) 18 rfl (by kernel_rfl) (by kernel_rfl) (by kernel_rfl) (by kernel_rfl) (by kernel_rfl) (by simp) (fun _ _ _ h _ => h) trivial ?_ ?_
                  · refine (ObG.free rfl ?o0 (ObG.free rfl ?o1 (ObG.free rfl ?o2 (ObG.free rfl ?o3 (ObG.free rfl ?o4 (ObG.free rfl ?o5 (ObG.free rfl ?o6 (ObG.free rfl ?o7 (ObG.free rfl ?o8 (ObG.free rfl ?o9 (ObG.free rfl ?o10 (ObG.free rfl ?o11 (ObG.free rfl ?o12 (ObG.free rfl ?o13 (ObG.free rfl ?o14 (ObG.free rfl ?o15 (ObG.free rfl ?o16 (ObG.free rfl ?o17 trivial))))))))))))))))))
                    case o0 => intro aR wR mR hR hI; replace hR := hR.undrew; intro (h13 : aR.tmps[13]? = some (.pointer (some ⟨px, 0, none⟩))); exact exec_val (c := .pointer (some ⟨px, 9, none⟩)) (wanted_none rfl) (by go_simp) rfl
                    case o1 => intro aR wR mR hR hI; replace hR := hR.undrew; intro v67 h67 e67; replace e67 : v67 = .pointer (some ⟨px, 9, none⟩) := e67; subst e67; (have h1 := hR.cell E9.out (by simp)); exact exec_val (c := .slice za t zc) (wanted_none rfl) (by go_simp) rfl
                    case o2 => intro aR wR mR hR hI; replace hR := hR.undrew; intro (h16 : aR.tmps[16]? = some (.slice (some ⟨b2, off2, none⟩) xn xc)); exact exec_val (c := .slice (some ⟨b2, off2, none⟩) xn xc) (wanted_none rfl) (by go_simp) rfl
                    case o3 => intro aR wR mR hR hI; replace hR := hR.undrew; intro (h12 : aR.tmps[12]? = some (.int .i64 (i : Int))); exact exec_val (c := .int .i64 (i : Int)) (wanted_none rfl) (by go_simp) rfl
                    case o4 => intro aR wR mR hR hI; replace hR := hR.undrew; intro v69 h69 e69; replace e69 : v69 = .slice (some ⟨b2, off2, none⟩) xn xc := e69; subst e69; intro v70 h70 e70; replace e70 : v70 = .int .i64 (i : Int) := e70; subst e70; exact exec_val (c := .pointer (some ⟨b2, off2 + i, none⟩)) (wanted_none rfl) (by go_simp) rfl
                    case o5 => intro aR wR mR hR hI; replace hR := hR.undrew; intro v71 h71 e71; replace e71 : v71 = .pointer (some ⟨b2, off2 + i, none⟩) := e71; subst e71; (have h1 := hR.cell E1.out (by simp)); exact exec_val (c := .int .i64 x) (wanted_none rfl) (by go_simp) rfl
                    case o6 => intro aR wR mR hR hI; replace hR := hR.undrew; intro (h16 : aR.tmps[16]? = some (.slice (some ⟨b2, off2, none⟩) xn xc)); exact exec_val (c := .slice (some ⟨b2, off2, none⟩) xn xc) (wanted_none rfl) (by go_simp) rfl
                    case o7 => intro aR wR mR hR hI; replace hR := hR.undrew; intro (h12 : aR.tmps[12]? = some (.int .i64 (i : Int))); exact exec_val (c := .int .i64 (i : Int)) (wanted_none rfl) (by go_simp) rfl
                    case o8 => intro aR wR mR hR hI; replace hR := hR.undrew; intro v73 h73 e73; replace e73 : v73 = .slice (some ⟨b2, off2, none⟩) xn xc := e73; subst e73; intro v74 h74 e74; replace e74 : v74 = .int .i64 (i : Int) := e74; subst e74; exact exec_val (c := .pointer (some ⟨b2, off2 + i, none⟩)) (wanted_none rfl) (by go_simp) rfl
                    case o9 => intro aR wR mR hR hI; replace hR := hR.undrew; intro v75 h75 e75; replace e75 : v75 = .pointer (some ⟨b2, off2 + i, none⟩) := e75; subst e75; (have h1 := hR.cell E1.out (by simp)); exact exec_val (c := .int .i64 x) (wanted_none rfl) (by go_simp) rfl
                    case o10 => intro aR wR mR hR hI; replace hR := hR.undrew; intro (h16 : aR.tmps[16]? = some (.slice (some ⟨b2, off2, none⟩) xn xc)); exact exec_val (c := .slice (some ⟨b2, off2, none⟩) xn xc) (wanted_none rfl) (by go_simp) rfl
                    case o11 => intro aR wR mR hR hI; replace hR := hR.undrew; intro (h12 : aR.tmps[12]? = some (.int .i64 (i : Int))); exact exec_val (c := .int .i64 (i : Int)) (wanted_none rfl) (by go_simp) rfl
                    case o12 => intro aR wR mR hR hI; replace hR := hR.undrew; intro v77 h77 e77; replace e77 : v77 = .slice (some ⟨b2, off2, none⟩) xn xc := e77; subst e77; intro v78 h78 e78; replace e78 : v78 = .int .i64 (i : Int) := e78; subst e78; exact exec_val (c := .pointer (some ⟨b2, off2 + i, none⟩)) (wanted_none rfl) (by go_simp) rfl
                    case o13 => intro aR wR mR hR hI; replace hR := hR.undrew; intro v79 h79 e79; replace e79 : v79 = .pointer (some ⟨b2, off2 + i, none⟩) := e79; subst e79; (have h1 := hR.cell E1.out (by simp)); exact exec_val (c := .int .i64 x) (wanted_none rfl) (by go_simp) rfl
                    case o14 => intro aR wR mR hR hI; replace hR := hR.undrew; intro v72 h72 e72; replace e72 : v72 = .int .i64 x := e72; subst e72; intro v76 h76 e76; replace e76 : v76 = .int .i64 x := e76; subst e76; intro v80 h80 e80; replace e80 : v80 = .int .i64 x := e80; subst e80; exact exec_val (c := .agg #[.int .i64 x, .int .i64 x, .int .i64 x]) (wanted_none rfl) (by go_simp) rfl
                    case o15 => intro aR wR mR hR hI; replace hR := hR.undrew; intro v81 h81 e81; replace e81 : v81 = .agg #[.int .i64 x, .int .i64 x, .int .i64 x] := e81; subst e81; exact exec_do (c := .slice (some ⟨wR.heap.size, 0, none⟩) 1 1) (w' := wR.alloc (.cells #[.int .i64 x, .int .i64 x, .int .i64 x] 84)) (wanted_none rfl) (by go_simp) ⟨_, rfl, hR.size, heap_alloc_at rfl⟩ ((Kp.refl [] _).alloc _)
                    case o16 => intro aR wR mR hR hI; replace hR := hR.undrew; intro v68 h68 e68; replace e68 : v68 = .slice za t zc := e68; subst e68; intro v82 h82 e82; obtain ⟨b9, rfl, -, h9⟩ := e82; exact execS_grow slies (wanted_none rfl) (.tmp 68) (.tmp 82) 80 80 rfl wo.heap.size 84 (.agg #[.int .i64 0, .int .i64 0, .int .i64 0]) 24 Try.underlying80 infoSum rfl za zc t zs HZL.out [⟨x, x, x⟩] _ 1 rfl (by go_simp) (by go_simp) (HZO.out.keep0 hR) (src_oneS slies (x := ⟨x, x, x⟩) Try.underlying80 h9) hroom (by omega) (by omega) (Nat.le_trans hs9 hR.size) (fun cap' w' g1 g2 => ⟨_, cap', rfl, ownS_high g1 hR.size⟩)
                    case o17 => intro aR wR mR hR hI; replace hR := hR.undrew; intro (h13 : aR.tmps[13]? = some (.pointer (some ⟨px, 0, none⟩))); exact exec_val (c := .pointer (some ⟨px, 9, none⟩)) (wanted_none rfl) (by go_simp) rfl
                  · intro vs wR hR hI hV
                    obtain ⟨e0, e1, e2, e3, e4, e5, e6, e7, e8, e9, e10, e11, e12, e13, e14, e15, e16, e17, -⟩ := hV
                    replace e0 : vs 0 = .pointer (some ⟨px, 9, none⟩) := e0
                    replace e1 : vs 1 = .slice za t zc := e1
                    replace e2 : vs 2 = .slice (some ⟨b2, off2, none⟩) xn xc := e2
                    replace e3 : vs 3 = .int .i64 (i : Int) := e3
                    replace e4 : vs 4 = .pointer (some ⟨b2, off2 + i, none⟩) := e4
                    replace e5 : vs 5 = .int .i64 x := e5
                    replace e6 : vs 6 = .slice (some ⟨b2, off2, none⟩) xn xc := e6
                    replace e7 : vs 7 = .int .i64 (i : Int) := e7
                    replace e8 : vs 8 = .pointer (some ⟨b2, off2 + i, none⟩) := e8
                    replace e9 : vs 9 = .int .i64 x := e9
                    replace e10 : vs 10 = .slice (some ⟨b2, off2, none⟩) xn xc := e10
                    replace e11 : vs 11 = .int .i64 (i : Int) := e11
                    replace e12 : vs 12 = .pointer (some ⟨b2, off2 + i, none⟩) := e12
                    replace e13 : vs 13 = .int .i64 x := e13
                    replace e14 : vs 14 = .agg #[.int .i64 x, .int .i64 x, .int .i64 x] := e14
                    replace e17 : vs 17 = .pointer (some ⟨px, 9, none⟩) := e17
                    simp only [putAll, List.take_succ_cons, List.take_zero, List.drop_succ_cons, List.drop_zero, e0, e1, e2, e3, e4, e5, e6, e7, e8, e9, e10, e11, e12, e13, e14, e17, Nat.reduceAdd, Nat.zero_add]
                    clear e0 e1 e2 e3 e4 e5 e6 e7 e8 e9 e10 e11 e12 e13 e14 e17
                    try simp only [List.setIfInBounds_toArray, List.set_cons_succ, List.set_cons_zero]
                    simp only [Nat.reduceAdd, Nat.zero_add] at e16
                    obtain ⟨ad8, cap8, hv8, hO8⟩ := e16
                    rw [hv8]
                    have hO7 : OwnS s3cells 3 wR wo.heap.size 84 ad8 cap8 (zs ++ [⟨x, x, x⟩]) := hO8.mono hs9
                    have hne8 : ∀ y ∈ ob ad8 cap8, y ≠ px := fun y hy e => by have h1 := (hO8.ob_ge y hy).1; have h2 := lt_of_heap HPT.out; omega
                    have hpR := hR.get HPT.out (by simp)
                    have c9 : wR.cell? ⟨px, 9, none⟩ = some (.slice za t zc) := by rw [cell_of_row wR px 9 _ _ _ hpR]; rfl
                    have f9 := frozen_of_row wR px 9 _ _ hpR
                    have HP9 := Lib.hid (HNA.out wR ad8 cap8 hpR)
                    have k9 : Kp [px] wR (wR.setCell ⟨px, 9, none⟩ (.slice ad8 (t + 1) cap8)) := (Kp.refl [px] wR).setCell _ _ (by simp)
                    have HO9 := Lib.hid (hO7.keep k9 (fun y hy hx => hne8 y hy (by simpa using hx)))
                    have HK9 : Hid (Kp [] wo (wR.setCell ⟨px, 9, none⟩ (.slice ad8 (t + 1) cap8))) := Lib.hid ((HKT.out.tr hR).trans k9 (by simp) (fun y hy => by simp at hy; subst hy; exact .inr (by rw [HPX.out]; exact Nat.le_refl _)))
                    clear hO7 hO8 hne8 hpR k9 hR hI e15 hv8
                    go_wp2_with fail
                    go_roundw
                    case rel => exact ⟨t + 1, ad8, cap8, zs ++ [⟨x, x, x⟩], hlt2, by go_num, HZS2, HP9, HO9, HK9⟩
                    case measure => simp [intOf]; omega
              · obtain rfl : t = dn := by omega
                obtain ⟨f, hf⟩ : ∃ f : Nat → Int, f = fun u => if u < j then nth (rowP (lis S) u) i else 0 := ⟨_, rfl⟩
                have HP21 : Hid (wt.heap[px]? = some (.cells #[.int .i64 (f 0), .int .i64 (f 1), .int .i64 (f 2), .int .i64 (f 3), .int .i64 (f 4), .int .i64 (f 5), .int .i64 (f 6), .int .i64 (f 7), .int .i64 1, .slice za t zc] 82)) := Lib.hid (by
                  rw [HPT.out, recJ_arr _ _ _ _ _ _ _ f hf])
                have HYP : Hid (pr j ⟨f, 1, za, t, zc, zs⟩ = rowPR (lis S) (lis D) i) := Lib.hid (by
                  have := recJ_pr (lis S) i j HSL.out.symm za t zc zs
                  unfold recJ at this
                  rw [← hf] at this
                  rw [this, HZS.out, List.take_of_length_le (by rw [HDL.out]; exact Nat.le_refl _)]
                  rfl)
                have hsw := HI.out.kp.size
                have HGY : Hid (∀ W, Kp [] wt W → Good j t w2.heap.size W ⟨f, 1, za, t, zc, zs⟩) := Lib.hid (fun W hW => by
                  refine ⟨fun u h1 h2 => ?_, ?_, ?_, (HZO.out.mono hsw).keep0 hW⟩
                  · show f u = 0
                    rw [hf]
                    show (if u < j then _ else 0) = 0
                    rw [if_neg (by omega)]
                  · show zs.length = t
                    rw [HZS.out, List.length_map, List.length_take, HDL.out, Nat.min_self]
                  · show t = zs.length
                    rw [HZS.out, List.length_map, List.length_take, HDL.out, Nat.min_self])
                have HIT := Lib.hid (HI.out.keep0 HKT.out)
                have HIL : Hid (i = RL.length) := Lib.hid HI.out.len.symm
                have HSZW : Hid (w2.heap.size ≤ wt.heap.size) := Lib.hid (Nat.le_trans hsw HKT.out.size)
                clear hf hsw
                go_wp2_with first
                  | (refine wpList_load_row rfl 82 _ rfl px rfl 82 #[.int .i64 (f 0), .int .i64 (f 1), .int .i64 (f 2), .int .i64 (f 3), .int .i64 (f 4), .int .i64 (f 5), .int .i64 (f 6), .int .i64 (f 7), .int .i64 1, .slice za t zc] (0, 0) _ HP21.out Try.underlying82 rfl (by kernel_rfl) ?_)
                  | (at_builtin; refine wpList_appS rclies rfl (.tmp 86) (.tmp 88) 57 57 rfl w2.heap.size 82 (.agg #[.int .i64 0, .int .i64 0, .int .i64 0, .int .i64 0, .int .i64 0, .int .i64 0, .int .i64 0, .int .i64 0, .int .i64 0, .slice none 0 0]) 96 Try.underlying57 infoRec rfl ado capo i RL HIL.out [⟨f, 1, za, t, zc, zs⟩] _ 1 rfl rfl rfl (HIT.out.own.alloc _) (src_oneS rclies Try.underlying57 (heap_alloc_at rfl)) (by omega) (by omega) (by have := HSZW.out; simp only [World.size_alloc]; omega) ?_; intro ad6 cap6 w6 ho6 kp6 _ _; have HI6 := Lib.hid (RowsI.snoc (HIT.out.keep0 ((Kp.refl [] wt).alloc _)) (Nat.le_refl _) (HGY.out _ ((Kp.refl [] wt).alloc _)) HYP.out ho6 kp6); clear ho6 kp6)
                go_roundw
                case rel => exact ⟨i + 1, ad6, cap6, RL ++ [⟨f, 1, za, t, zc, zs⟩], hlt, by go_num, rfl, HI6⟩
                case measure => simp [intOf]; omega
      · obtain rfl : i = r0 := by omega
        have HTG := Lib.hid (stTogO_any sn dn w2.heap.size ado capo i RL HI.out.len.symm (by omega) hsn8 (by omega) wo HI.out.own HI.out.good)
        have HRP : Hid (RL.map (pr sn) = rowsP (lis S) (lis D)) := Lib.hid (by
          rw [HI.out.is, HR0.out]; rfl)
        go_wp2_with fail
        refine HTG.out.mono ?_
        rintro e w5 ⟨oa, oc, R, rfl, ho5, hR5, hg5, kp5⟩
        have hne5 : T ∉ ob ado capo := fun hb => by have h1 := (HI.out.own.ob_ge T hb).1; have h2 := HTW.out.1; omega
        have ht5 : w5.heap[T]? = some (.cells (treeC sn dn lf none 0 0 none 0 0) 59 (0, 0)) := kp5.get (HI.out.kp.get HT2.out (by simp)) hne5
        have c3 : w5.cell? ⟨T, 3, none⟩ = some (.slice none 0 0) := by rw [cell_of_row w5 T 3 _ _ _ ht5]; rfl
        have f3 := frozen_of_row w5 T 3 _ _ ht5
        obtain ⟨rn, hrn⟩ : ∃ rn, rn = R.length := ⟨_, rfl⟩
        rw [← hrn]
        have ht6 : (w5.setCell ⟨T, 3, none⟩ (.slice oa rn oc)).heap[T]? = some (.cells (treeC sn dn lf oa R.length oc none ([] : List Nh).length 0) 59 (0, 0)) := by
          rw [heap_setCell_same w5 T 3 _ _ _ ht5, ← hrn]; rfl
        have k6 : Kp [T] w5 (w5.setCell ⟨T, 3, none⟩ (.slice oa rn oc)) := (Kp.refl [T] w5).setCell _ _ (by simp)
        have hk05 : Kp [] w w5 := (K2.out.tr HI.out.kp).trans kp5 (by simp) (fun b hb => .inr (by have h1 := (HI.out.own.ob_ge b hb).1; have h2 := HTW.out; omega))
        have hbw : w.heap.size ≤ wo.heap.size := (K2.out.tr HI.out.kp).size
        have HTH : Hid (TreeH T sn dn lf w.heap.size (fun _ => False) oa oc R none 0 [] (w5.setCell ⟨T, 3, none⟩ (.slice oa rn oc))) := Lib.hid (by
          refine ⟨ht6, (ho5.mono hbw).keep k6 (fun b hb hb2 => ?_), OwnS.nil _ _ _ _ _, fun x hx => ?_, by simp, HTW.out.2.1⟩
          · simp at hb2; subst hb2; exact own_ne ho5 ht5 tNe.1 hb
          · obtain ⟨q1, q2, q3, q4⟩ := hg5 x hx
            exact ⟨q1, q2, q3, (q4.mono hbw).keep k6 (fun b hb hb2 => by simp at hb2; subst hb2; exact own_ne q4 ht5 tNe.2.2.2.1 hb)⟩)
        have HK6 : Hid (Kp [] w (w5.setCell ⟨T, 3, none⟩ (.slice oa rn oc))) := Lib.hid (hk05.trans k6 (by simp) (fun b hb => by simp at hb; subst hb; exact .inr HTW.out.2.1))
        have HRN := Lib.hid hrn
        have HOF : Hid (growP lf sn sn false 0 rn ⟨R.map (pr sn), ([] : List Nh).map pn⟩ = ofP (lis S) (lis D) lf) := Lib.hid (by
          have h1 := hR5
          rw [HRP.out] at h1
          unfold ofP
          rw [← h1, HSL.out, List.length_map, hrn]; rfl)
        have HBD := Lib.hid (ofP_bound (lis S) (lis D) lf (by rw [HSL.out]; exact hsn8) HROW.out)
        clear ht5 ht6 k6 hk05 hbw hrn ho5 hR5 hg5 kp5 hne5 HTG
        go_upto_region 24 with (fail)
        generalize w5.setCell ⟨T, 3, none⟩ (.slice oa rn oc) = w6 at *
        obtain ⟨-, -, c3, -, -, -⟩ := HTH.out.cell
        rw [← HRN.out] at c3
        go_wp2_with fail
        refine (stGrow_any sn dn lf w.heap.size hsn8 (by omega) (by omega) (by omega) sn false 0 0 rn T (fun _ => False) oa oc R none 0 [] w6 (by omega) (by omega) (by rw [HRN.out]; exact Nat.le_refl _) HTH.out (by simp) (by rw [HOF.out]; exact HBD.out.1) (by rw [HOF.out]; exact HBD.out.2)).mono ?_
        rintro e7 w7 ⟨rfl, hin7⟩
        rw [HOF.out] at hin7
        obtain ⟨ra7, rc7, RL7, na7, nc7, NL7, t1, t2, t3, t4⟩ := hin7
        have hfr : ∀ b ∈ frT T oa oc none 0, w.heap.size ≤ b := fun b hb => (HTH.out.frLt b hb).1
        have HF : Hid (OfPost (lis S) (lis D) many (lf : Int) w (.returned (.tuple #[.pointer (some ⟨T, 0, none⟩), .int .i64 0])) w7) := Lib.hid (by
          refine ⟨HK6.out.trans t4 (by simp) (fun b hb => .inr (hfr b hb)), .inr ⟨HV.out.symm, T, lf, rfl, rfl, HTW.out.2.1, ra7, rc7, RL7, na7, nc7, NL7, ?_, ?_⟩⟩
          · rw [HSL.out, HDL.out]; exact t1
          · rw [HSL.out]; exact t2.symm)
        clear t1 t2 t3 t4 hfr c3
        go_wp2_with fail
        go_ret2
        exact HF.out
end Go.Proofs.Ythmaobmgogmaoaa
