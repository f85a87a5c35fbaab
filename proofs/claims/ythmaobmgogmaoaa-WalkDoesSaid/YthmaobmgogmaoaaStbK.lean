/-
  Questions: whether an id may be; what of a leaf is taken.
  Questions: in which kids the walk goes on.
-/
import Derived.Test.YthmaobmgogmaoaaStbD
import Derived.Test.YthmaobmgogmaoaaStbW
import Derived.Deep.LoopGhost
namespace Go.Proofs.Ythmaobmgogmaoaa
open Go.RowKit Go.Shelf
set_option linter.unusedSimpArgs false
set_option linter.unusedVariables false
set_option maxRecDepth 100000

theorem allowed_yes {m : List Bool} {i : Nat} (h : i < m.length) : allowedB m (i : Int) = nthF m i := by
  unfold allowedB
  have h0 : ¬ m.length = 0 := by omega
  rw [decide_eq_false h0, decide_eq_true (by omega : (0 : Int) ≤ (i : Int)), decide_eq_true (by omega : (i : Int) < (m.length : Int))]
  simp
theorem wallowed_any (fa : Option Addr) (fn fc : Nat) (m : List Bool) (hn : fn = m.length) (id : Int) (w : World) (h : RdF w fa fc m) : Calls Try.prog 61 #[.slice fa fn fc, .int .i64 id] w fun e w' => e = .returned (.bool (allowedB m id)) ∧ w' = w := by
  have hcap : fn ≤ fc := by rw [hn]; exact h.1
  have hcap2 := h.2.1
  have HV : Hid (allowedB m id = (decide (fn = 0) || (decide (0 ≤ id) && (decide (id < (fn : Int)) && nthF m id.toNat)))) := Lib.hid (by unfold allowedB; rw [hn])
  have H := Lib.hid h
  have HN := Lib.hid hn
  clear h hn
  generalize allowedB m id = v at *
  by_cases h0 : fn = 0
  · subst h0
    have HF : Hid (v = true) := Lib.hid (by rw [HV.out]; rfl)
    go_enter Try.func61, Try.ntmps61
    go_wp2_with fail
    go_ret
    exact ⟨by rw [HF.out]; rfl, rfl⟩
  · have hb : ((fn : Int) == 0) = false := by simp; omega
    by_cases h1 : (0 : Int) ≤ id
    · by_cases h2 : id < (fn : Int)
      · obtain ⟨i, rfl⟩ : ∃ i : Nat, id = (i : Int) := ⟨id.toNat, by omega⟩
        have hi : i < fn := by omega
        obtain ⟨b, off, rfl, c0⟩ := H.out.at' i (by rw [← HN.out]; exact hi)
        have HF : Hid (v = nthF m i) := Lib.hid (by
          rw [HV.out, decide_eq_false h0, decide_eq_true h1, decide_eq_true h2]; simp)
        generalize nthF m i = q at *
        have hd1 : decide ((0 : Int) ≤ (i : Int)) = true := by simp
        have hd2 : decide ((i : Int) < (fn : Int)) = true := by simp; omega
        clear HV H HN
        go_enter Try.func61, Try.ntmps61
        go_wp2_with fail
        go_ret
        exact ⟨by rw [HF.out]; rfl, rfl⟩
      · have HF : Hid (v = false) := Lib.hid (by rw [HV.out, decide_eq_false h0, decide_eq_true h1, decide_eq_false h2]; rfl)
        go_enter Try.func61, Try.ntmps61
        go_wp2_with fail
        go_ret
        exact ⟨by rw [HF.out]; rfl, rfl⟩
    · have HF : Hid (v = false) := Lib.hid (by rw [HV.out, decide_eq_false h0, decide_eq_false h1]; rfl)
      go_enter Try.func61, Try.ntmps61
      go_wp2_with fail
      go_ret
      exact ⟨by rw [HF.out]; rfl, rfl⟩
/-- Numbers of records as they lie in memory. -/
def nums (L : List Nat) : List Int := L.map fun (n : Nat) => (n : Int)
theorem nums_len (L : List Nat) : (nums L).length = L.length := by simp [nums]
theorem nums_app (A B : List Nat) : nums (A ++ B) = nums A ++ nums B := by simp [nums]
theorem leafL_len (R : List PR) (may : List (List Bool)) (p : Nat) : ∀ n, (leafL R may p n).length ≤ n
  | 0 => by simp [leafL]
  | n + 1 => by
    have := leafL_len R may p n
    unfold leafL
    rw [List.length_append]
    split <;> simp <;> omega
theorem leafL_step {R : List PR} {may : List (List Bool)} {p i : Nat} (h : p ≤ i) : leafL R may p (i + 1 - p) = leafL R may p (i - p) ++ if okRec may (recAt R i).ids then [i] else [] := by
  obtain ⟨n, rfl⟩ : ∃ n, i = p + n := ⟨i - p, by omega⟩
  rw [show p + n + 1 - p = n + 1 by omega, show p + n - p = n by omega, leafL]
theorem okRec_no {may : List (List Bool)} {ids : List Int} {j : Nat} (h : j < ids.length) (hf : allowedB (rowF may j) (ids.getD j 0) = false) : okRec may ids = false := by
  rw [← Bool.not_eq_true, okRec_get]
  intro h2
  rw [h2 j h] at hf; cases hf
set_option maxHeartbeats 3200000 in
theorem wleaf_any {T k mt leaf B : Nat} {X : Nat → Prop} {ra : Option Addr} {rc : Nat} {RL : List Rc} {na : Option Addr} {nc : Nat} {NL : List Nh} (w : World) (h : TreeH T k mt leaf B X ra rc RL na nc NL w) (hk : 1 ≤ k) (hk8 : k ≤ 8) (hmt : mt ≤ 1000)
    (yd yf yt : Nat) (yka : Option Addr) (ykn ykc : Nat) (hft : yf ≤ yt) (htl : yt ≤ RL.length) (htb : yt ≤ 100000) (ma : Option Addr) (mn mc : Nat) (MF : List Bh) (hM : mn = MF.length) (hmk : mn = k) (hm : RdM w ma mc MF) :
    Calls Try.prog 46 #[.pointer (some ⟨T, 0, none⟩), .agg #[.int .i64 (yd : Int), .int .i64 (yf : Int), .int .i64 (yt : Int), .slice yka ykn ykc], .slice ma mn mc] w fun e w' =>
      ∃ la lc, e = .returned (.slice la (leafL (RL.map (pr k)) (lisF MF) yf (yt - yf)).length lc) ∧ Own w' w.heap.size 3 .i64 la lc (nums (leafL (RL.map (pr k)) (lisF MF) yf (yt - yf))) ∧ Kp [] w w' := by
  obtain ⟨R, hR⟩ : ∃ R, R = RL.map (pr k) := ⟨_, rfl⟩
  rw [← hR]
  have HRL : Hid (yt ≤ R.length) := Lib.hid (by rw [hR, List.length_map]; exact htl)
  have HLEN : Hid (∀ (i : Nat) (r : PR), R[i]? = some r → r.ids.length = k) := Lib.hid (fun i r hr => by
    rw [hR, List.getElem?_map] at hr
    obtain ⟨x, -, rfl⟩ := Option.map_eq_some_iff.1 hr
    simp [pr])
  have HR := Lib.hid hR
  have H := Lib.hid h
  have HM := Lib.hid hm
  have HMN := Lib.hid hM
  have hmc : mn ≤ mc := by rw [hM]; exact hm.1.1
  have hmc2 := hm.1.2.1
  subst hmk
  clear h hR htl hm hM
  go_enter Try.func46, Try.ntmps46
  go_wp2_with fail
  go_step3
  go_wp2_with fail
  go_step3
  go_upto_region 1 with (fail)
  obtain ⟨p, hp⟩ : ∃ p, p = w.heap.size := ⟨_, rfl⟩
  obtain ⟨w1, hw1⟩ : ∃ w1, w1 = w.alloc (Obj.cells #[.int .i64 (yd : Int), .int .i64 (yf : Int), .int .i64 (yt : Int), .slice yka ykn ykc] 40) := ⟨_, rfl⟩
  have k1 : Kp [] w w1 := by rw [hw1]; exact (Kp.refl [] w).alloc _
  have hp1 : w1.heap[p]? = some (.cells #[.int .i64 (yd : Int), .int .i64 (yf : Int), .int .i64 (yt : Int), .slice yka ykn ykc] 40) := by rw [hw1]; exact heap_alloc_at hp
  rw [← hw1, ← hp]
  have HP := Lib.hid hp1
  have K1 := Lib.hid k1
  have HSZ : Hid (w.heap.size ≤ w1.heap.size) := Lib.hid k1.size
  have c1 : w1.cell? ⟨p, 1, none⟩ = some (.int .i64 (yf : Int)) := by rw [cell_of_row w1 p 1 _ _ _ hp1]; rfl
  clear hw1 hp1 k1 hp
  go_wp2_with fail
  go_loopw [6, 7] (fun vl vi wr => ∃ (i ln : Nat) (la : Option Addr) (lc : Nat), yf ≤ i ∧ i ≤ yt ∧ ln ≤ 100000 ∧ vi = .int .i64 i ∧ vl = .slice la ln lc ∧ Hid (ln = (leafL R (lisF MF) yf (i - yf)).length) ∧ Hid (Own wr w1.heap.size 3 .i64 la lc (nums (leafL R (lisF MF) yf (i - yf)))) ∧ Hid (Kp [] w1 wr)) (fun _ vi _ => yt - (intOf vi).toNat)
  case atStart => exact ⟨yf, 0, none, 0, Nat.le_refl _, hft, Nat.zero_le _, rfl, rfl, Lib.hid (by rw [Nat.sub_self]; rfl), Lib.hid (by rw [Nat.sub_self]; exact Own.nil _ _ _ _), Lib.hid (Kp.refl _ _)⟩
  case round =>
    obtain ⟨i, ln, la, lc, hi1, hi2, hln, rfl, rfl, HLN, HO, HK⟩ := hrel
    obtain ⟨wo, rfl⟩ : ∃ wo : World, wo = wr := ⟨_, rfl⟩
    have c2 : wo.cell? ⟨p, 2, none⟩ = some (.int .i64 (yt : Int)) := by rw [cell_of_row wo p 2 _ _ _ (HK.out.get HP.out (by simp))]; rfl
    clear c1
    by_cases hlt : i < yt
    · obtain ⟨r, hr⟩ : ∃ r, R[i]? = some r := ⟨_, List.getElem?_eq_getElem (by have := HRL.out; omega)⟩
      have HRC := Lib.hid (stRecord_at wo (H.out.keep0 (K1.out.tr HK.out)) hk hk8 hmt i (by rw [← HR.out]; exact hr))
      have HSTEP := Lib.hid (leafL_step (R := R) (may := lisF MF) hi1)
      rw [recAt_get hr] at HSTEP
      have hrl := HLEN.out i r hr
      clear hr
      go_wp2_with fail
      refine HRC.out.mono ?_
      rintro e w11 ⟨x, rfl, hx, hox, kpw11⟩
      unfold raV
      go_upto_region 5 with (refine wpList_store_row rfl 34 _ _ rfl w11.heap.size #[.slice x.ia x.ids.length x.ic, .int .i64 x.cnt, .slice x.sa x.ms.length x.sc, .slice x.la x.ms.length x.lc, .slice x.ga x.ms.length x.gc] rfl rfl 34 _ (heap_alloc_at rfl) (by kernel_rfl) rfl (by simp [Value.oneCell']) ?_)
      obtain ⟨q, hq⟩ : ∃ q, q = w11.heap.size := ⟨_, rfl⟩
      generalize hz : (w11.alloc (Obj.cells _ _)).setRow _ _ = w12
      rw [← hq] at hz ⊢
      have hrp : w12.heap[q]? = some (.cells #[.slice x.ia x.ids.length x.ic, .int .i64 x.cnt, .slice x.sa x.ms.length x.sc, .slice x.la x.ms.length x.lc, .slice x.ga x.ms.length x.gc] 34) := by rw [← hz]; exact setRow_heap _ q _ _ _ _ (heap_alloc_at hq)
      have kp : Kp [] w11 w12 := by rw [← hz]; exact ((Kp.refl [] w11).alloc _).setRowF _ _ (.inr (by omega))
      have e1 : x.ids = r.ids := by rw [← hx]; rfl
      obtain ⟨ids, hids⟩ : ∃ ids, ids = r.ids := ⟨_, rfl⟩
      have hil : mn = ids.length := by rw [hids, hrl]
      have hirc := (hox.1.keep0 kp).rd
      rw [e1, ← hids] at hirc
      have p0 : w12.cell? ⟨q, 0, none⟩ = some (.slice x.ia mn x.ic) := by rw [hil, hids, ← e1, cell_of_row w12 q 0 _ _ _ hrp]; rfl
      rw [← hids] at HSTEP
      obtain ⟨ia, hia⟩ : ∃ ia, ia = x.ia := ⟨_, rfl⟩
      obtain ⟨ic, hic⟩ : ∃ ic, ic = x.ic := ⟨_, rfl⟩
      rw [← hia, ← hic] at p0 hirc
      have hcap := hirc.1
      rw [← hil] at hcap
      have hcap2 := hirc.2.1
      have HIL := Lib.hid hil
      have HIR := Lib.hid hirc
      have KW := Lib.hid (kpw11.tr kp)
      have HM12 := Lib.hid (HM.out.keep0 ((K1.out.tr HK.out).tr KW.out))
      have HO12 := Lib.hid (HO.out.keep0 KW.out)
      have HKN : Hid (Kp [] w1 w12) := Lib.hid (HK.out.tr KW.out)
      clear hz hrp kp kpw11 hx hox e1 hids hil hirc hia hic hrl HRC c2 hq
      go_wp2_with fail
      go_loopw [29] (fun vj w2 => ∃ j : Nat, j ≤ mn ∧ vj = .int .i64 j ∧ Hid (∀ t, t < j → allowedB (rowF (lisF MF) t) (ids.getD t 0) = true) ∧ w2 = w12) (fun vj _ => mn - (intOf vj).toNat)
      case atStart => exact ⟨0, Nat.zero_le _, rfl, Lib.hid (fun t ht => by omega), rfl⟩
      case round =>
        obtain ⟨j, hj, rfl, HA, rfl⟩ := hrel
        by_cases hlj : j < mn
        · have hjl : j < ids.length := by rw [← HIL.out]; exact hlj
          obtain ⟨bi, oi, rfl, ci⟩ := HIR.out.2.2 j hjl
          have hjM : j < MF.length := by rw [← HMN.out]; exact hlj
          obtain ⟨bm, om, fa, fn, fc, rfl, cm, hfn, hfr⟩ := HM12.out.at' j hjM
          have HWC := Lib.hid (wallowed_any fa fn fc _ hfn (nth ids j) wr hfr)
          have HNO : Hid (allowedB (rowF (lisF MF) j) (nth ids j) = false → okRec (lisF MF) ids = false) := Lib.hid (fun h => okRec_no hjl h)
          have HYES : Hid (allowedB (rowF (lisF MF) j) (nth ids j) = true → ∀ t, t < j + 1 → allowedB (rowF (lisF MF) t) (ids.getD t 0) = true) := Lib.hid (fun h t ht => by
            by_cases htj : t = j
            · rw [htj]; exact h
            · exact HA.out t (by omega))
          obtain ⟨id, hid⟩ : ∃ id, id = nth ids j := ⟨_, rfl⟩
          rw [← hid] at ci HWC HNO HYES
          obtain ⟨v, hv⟩ : ∃ v, v = allowedB (rowF (lisF MF) j) id := ⟨_, rfl⟩
          rw [← hv] at HWC HNO HYES
          clear hid hv hjl hjM hfn hfr
          go_wp2_with fail
          refine HWC.out.mono ?_
          rintro e w13 ⟨rfl, rfl⟩
          cases v
          · have HS : Hid (leafL R (lisF MF) yf (i + 1 - yf) = leafL R (lisF MF) yf (i - yf)) := Lib.hid (by rw [HSTEP.out, HNO.out rfl]; simp)
            clear ci cm
            go_wp2_with fail
            go_roundw
            case rel => exact ⟨i + 1, ln, la, lc, by omega, hlt, hln, by go_num, rfl, Lib.hid (by rw [HS.out]; exact HLN.out), Lib.hid (by rw [HS.out]; exact HO12.out), HKN⟩
            case measure => simp [intOf]; omega
          · have HY2 := Lib.hid (HYES.out rfl)
            clear ci cm
            go_wp2_with fail
            go_roundw
            case rel => exact ⟨j + 1, hlj, by go_num, HY2, trivial⟩
            case measure => simp [intOf]; omega
        · obtain rfl : j = mn := by omega
          have HS : Hid (leafL R (lisF MF) yf (i + 1 - yf) = leafL R (lisF MF) yf (i - yf) ++ [i]) := Lib.hid (by
            rw [HSTEP.out, if_pos (okRec_get.2 (fun t ht => HA.out t (by rw [HIL.out]; exact ht)))])
          have hln2 : ln + 1 ≤ 100000 := by
            have h1 := leafL_len R (lisF MF) yf (i + 1 - yf)
            rw [HS.out, List.length_append, ← HLN.out] at h1
            simp at h1; omega
          have HSZ2 : Hid (w1.heap.size ≤ wr.heap.size) := Lib.hid HKN.out.size
          have HNL : Hid (ln = (nums (leafL R (lisF MF) yf (i - yf))).length) := Lib.hid (by rw [nums_len]; exact HLN.out)
          clear p0
          go_wp2_with (at_builtin; refine wpList_app rfl (.tmp 42) (.tmp 44) 23 23 rfl w1.heap.size 3 .i64 8 Try.underlying23 infoInt la lc ln _ HNL.out [(i : Int)] _ 1 rfl rfl rfl (HO12.out.alloc _) (src_one Try.underlying23 (one_cell (heap_alloc_at rfl)).1) (by omega) (by omega) (by have := HSZ2.out; simp only [World.size_alloc]; omega) ?_; intro la1 lc1 w7 ho7 kp7 _ _; have HO7 := Lib.hid ho7; have HK7 : Hid (Kp [] w1 w7) := Lib.hid ((HKN.out.alloc _).trans kp7 (by simp) (fun b hb => .inr (HO12.out.ob_ge b hb).1)); clear ho7 kp7)
          go_roundw
          case rel => exact ⟨i + 1, ln + 1, la1, lc1, by omega, hlt, hln2, by go_num, by go_num, Lib.hid (by rw [HS.out, List.length_append, ← HLN.out]; rfl), Lib.hid (by rw [HS.out, nums_app]; exact HO7.out), HK7⟩
          case measure => simp [intOf]; omega
    · obtain rfl : i = yt := by omega
      have hln2 : Hid (ln = (leafL R (lisF MF) yf (i - yf)).length) := HLN
      go_wp2_with fail
      try rw [Exit.noGoto_ret]
      go_ret
      exact ⟨la, lc, by rw [← hln2.out]; rfl, HO.out.mono HSZ.out, K1.out.tr HK.out⟩
end Go.Proofs.Ythmaobmgogmaoaa
namespace Go.Proofs.Ythmaobmgogmaoaa
open Go.RowKit Go.Shelf
set_option linter.unusedSimpArgs false
set_option linter.unusedVariables false
set_option maxRecDepth 100000

theorem belowP_star {kids : List (Int × Nat)} {m : List Bool} {b : Bool} (h : (lastK kids).1 = -1) (hm : m.length = 0) (hb : b = false) : belowP kids m b = [(lastK kids).2] := by
  unfold belowP; rw [if_pos ⟨h, hm, hb⟩]
theorem belowP_all {kids : List (Int × Nat)} {m : List Bool} {b : Bool} (h : ¬ ((lastK kids).1 = -1 ∧ m.length = 0 ∧ b = false)) : belowP kids m b = (kids.filter (takeK m)).map (·.2) := by
  unfold belowP; rw [if_neg h]
def someK (m : List Bool) (l : List (Int × Nat)) : List Nat := (l.filter (takeK m)).map (·.2)
theorem someK_snoc (m : List Bool) (l : List (Int × Nat)) (x : Int × Nat) : someK m (l ++ [x]) = someK m l ++ if takeK m x then [x.2] else [] := by
  unfold someK
  rw [List.filter_append, List.map_append]
  by_cases h : takeK m x = true
  · simp [h]
  · simp [h]
theorem someK_len (m : List Bool) (l : List (Int × Nat)) : (someK m l).length ≤ l.length := by
  unfold someK; rw [List.length_map]; exact List.length_filter_le _ _
theorem lastK_get {kids : List (Int × Nat)} (h : kids ≠ []) : kids[kids.length - 1]? = some (lastK kids) := by
  have hl : kids.length - 1 < kids.length := by have := List.length_pos_iff.2 h; omega
  unfold lastK
  rw [List.getD_eq_getElem?_getD, List.getElem?_eq_getElem hl]; rfl
set_option maxHeartbeats 3200000 in
theorem wbelow_any (w : World) (yd yf yt : Nat) (yka : Option Addr) (ykn ykc : Nat) (ykids : List (Int × Nat)) (hkn : ykn = ykids.length) (hkb : ykn ≤ 100001) (hne : ykids ≠ []) (hkr : RdS kdcells 2 w yka ykc ykids) (fa : Option Addr) (fn fc : Nat) (m : List Bool) (hm : fn = m.length) (hf : RdF w fa fc m) (b : Bool) :
    Calls Try.prog 47 #[.agg #[.int .i64 (yd : Int), .int .i64 (yf : Int), .int .i64 (yt : Int), .slice yka ykn ykc], .slice fa fn fc, .bool b] w fun e w' =>
      ∃ la lc, e = .returned (.slice la (belowP ykids m b).length lc) ∧ Own w' w.heap.size 3 .i64 la lc (nums (belowP ykids m b)) ∧ Kp [] w w' := by
  have HKN := Lib.hid hkn
  have HKR := Lib.hid hkr
  have HM := Lib.hid hm
  have HF := Lib.hid hf
  have hnc : ykn ≤ ykc := by rw [hkn]; exact hkr.1
  have hnc2 := hkr.2.1
  have hpos : 0 < ykn := by rw [hkn]; exact List.length_pos_iff.2 hne
  obtain ⟨u, hu⟩ : ∃ u : Nat, (u : Int) = (ykn : Int) - 1 := ⟨ykn - 1, by omega⟩
  have hul : u < ykids.length := by rw [← hkn]; omega
  obtain ⟨b1, off1, rfl, d0, d1⟩ := kids_at hkr hul
  have hlast : ykids[u] = lastK ykids := by
    have h1 := lastK_get hne
    rw [show ykids.length - 1 = u by omega, List.getElem?_eq_getElem hul] at h1
    exact Option.some.inj h1
  obtain ⟨xi, hxi⟩ : ∃ xi, xi = ykids[u].1 := ⟨_, rfl⟩
  obtain ⟨xn, hxn⟩ : ∃ xn, xn = ykids[u].2 := ⟨_, rfl⟩
  rw [← hxi] at d0
  rw [← hxn] at d1
  have HXI : Hid (xi = (lastK ykids).1) := Lib.hid (by rw [hxi, hlast])
  have HXN : Hid (xn = (lastK ykids).2) := Lib.hid (by rw [hxn, hlast])
  have hw1 : IntKind.i64.wrap ((ykn : Int) - 1) = (u : Int) := by rw [IntWalk.i64_in _ (by omega)]; omega
  have hun : u < ykn := by omega
  have D0 := Lib.hid d0
  have D1 := Lib.hid d1
  clear hkn hkr hm hf hlast hxi hxn hu hul hne d0 d1
  obtain ⟨sb, hsb⟩ : ∃ sb : Bool, (xi == (-1 : Int)) = sb := ⟨_, rfl⟩
  have HSB : Hid (sb = true ↔ xi = -1) := Lib.hid (by rw [← hsb]; simp)
  go_enter Try.func47, Try.ntmps47
  go_upto_region 1 with (fail)
  obtain ⟨p, hp⟩ : ∃ p, p = w.heap.size := ⟨_, rfl⟩
  obtain ⟨w1, hw1'⟩ : ∃ w1, w1 = w.alloc (Obj.cells #[.int .i64 (yd : Int), .int .i64 (yf : Int), .int .i64 (yt : Int), .slice (some ⟨b1, off1, none⟩) ykn ykc] 40) := ⟨_, rfl⟩
  have k1 : Kp [] w w1 := by rw [hw1']; exact (Kp.refl [] w).alloc _
  have hp1 : w1.heap[p]? = some (.cells #[.int .i64 (yd : Int), .int .i64 (yf : Int), .int .i64 (yt : Int), .slice (some ⟨b1, off1, none⟩) ykn ykc] 40) := by rw [hw1']; exact heap_alloc_at hp
  rw [← hw1', ← hp]
  have HP := Lib.hid hp1
  have K1 := Lib.hid k1
  have HSZ : Hid (w.heap.size ≤ w1.heap.size) := Lib.hid k1.size
  have c3 : w1.cell? ⟨p, 3, none⟩ = some (.slice (some ⟨b1, off1, none⟩) ykn ykc) := by rw [cell_of_row w1 p 3 _ _ _ hp1]; rfl
  have d0 := k1.cell D0.out (by simp)
  have d1 := k1.cell D1.out (by simp)
  clear hw1' hp1 k1 hp
  go_upto_region 3 with (fail)
  by_cases hst : sb = true ∧ fn = 0 ∧ b = false
  · obtain ⟨rfl, rfl, rfl⟩ := hst
    have hxi := HSB.out.1 rfl
    subst hxi
    have HBL : Hid (belowP ykids m false = [xn]) := Lib.hid (by rw [belowP_star HXI.out.symm HM.out.symm rfl, ← HXN.out])
    go_wp2_with fail
    go_ret
    refine ⟨some ⟨w1.heap.size, 0, none⟩, 1, by rw [HBL.out]; rfl, ?_, K1.out.tr ((Kp.refl [] w1).alloc _)⟩
    rw [HBL.out]
    exact Own.row (zs := [(xn : Int)]) HSZ.out (heap_alloc_at rfl) (by simp)
  · have HBL : Hid (belowP ykids m b = someK m ykids) := Lib.hid (by
      rw [belowP_all (by rw [← HXI.out, ← HM.out]; exact fun h => hst ⟨HSB.out.2 h.1, h.2⟩)]; rfl)
    go_cut [31] (fun v31 wx => v31 = .bool false ∧ wx = w1)
    case first =>
      cases sb
      · go_wp2_with fail
        go_meet
        exact ⟨rfl, rfl⟩
      · by_cases h2 : fn = 0
        · subst h2
          cases b
          · exact (hst ⟨rfl, rfl, rfl⟩).elim
          · go_wp2_with fail
            go_meet
            exact ⟨rfl, rfl⟩
        · have hb : ((fn : Int) == 0) = false := by simp; omega
          go_wp2_with fail
          go_meet
          exact ⟨rfl, rfl⟩
    obtain ⟨rfl, rfl⟩ := hcut
    obtain ⟨w2, rfl⟩ : ∃ w2 : World, w2 = wc := ⟨_, rfl⟩
    clear d0 d1 hst hw1
    go_wp2_with fail
    go_loopw [6, 42] (fun vl vs wr => ∃ (s ln : Nat) (la : Option Addr) (lc : Nat), s ≤ ykn ∧ ln ≤ s ∧ vs = .int .i64 s ∧ vl = .slice la ln lc ∧ Hid (ln = (someK m (ykids.take s)).length) ∧ Hid (Own wr w2.heap.size 3 .i64 la lc (nums (someK m (ykids.take s)))) ∧ Hid (Kp [] w2 wr)) (fun _ vs _ => ykn - (intOf vs).toNat)
    case atStart => exact ⟨0, 0, none, 0, Nat.zero_le _, Nat.le_refl _, rfl, rfl, Lib.hid rfl, Lib.hid (Own.nil _ _ _ _), Lib.hid (Kp.refl _ _)⟩
    case round =>
      obtain ⟨s, ln, la, lc, hs, hln, rfl, rfl, HLN, HO, HK⟩ := hrel
      obtain ⟨ws, rfl⟩ : ∃ ws : World, ws = wr := ⟨_, rfl⟩
      by_cases hlt : s < ykn
      · have hsl : s < ykids.length := by rw [← HKN.out]; exact hlt
        have kw := K1.out.tr HK.out
        obtain ⟨b2, off2, hq, d0, d1⟩ := kids_at (RdS.keep0 HKR.out kdlies.len kw) hsl
        cases hq
        have HG : Hid (ykids[s]? = some ykids[s]) := Lib.hid (List.getElem?_eq_getElem hsl)
        obtain ⟨⟨yi, yn⟩, hxv⟩ : ∃ v, v = ykids[s] := ⟨_, rfl⟩
        rw [← hxv] at d0 d1 HG
        dsimp only at d0 d1
        have HST : Hid (someK m (ykids.take (s + 1)) = someK m (ykids.take s) ++ if takeK m (yi, yn) then [yn] else []) := Lib.hid (by rw [take_snoc HG.out, someK_snoc])
        clear hxv hsl
        go_upto_region 8 with (refine wpList_store_row rfl 44 _ _ rfl ws.heap.size #[.int .i64 yi, .int .i64 (yn : Int)] rfl rfl 44 _ (heap_alloc_at rfl) (by kernel_rfl) rfl (by simp [Value.oneCell']) ?_)
        obtain ⟨bk, hbk⟩ : ∃ p, p = ws.heap.size := ⟨_, rfl⟩
        generalize hz : (ws.alloc (Obj.cells _ _)).setRow _ _ = wk
        rw [← hbk] at hz ⊢
        have hrk : wk.heap[bk]? = some (.cells #[.int .i64 yi, .int .i64 (yn : Int)] 44) := by rw [← hz]; exact setRow_heap _ bk _ _ _ _ (heap_alloc_at hbk)
        have kk : Kp [] ws wk := by rw [← hz]; exact ((Kp.refl [] ws).alloc _).setRowF _ _ (.inr (by omega))
        have q0 : wk.cell? ⟨bk, 0, none⟩ = some (.int .i64 yi) := by rw [cell_of_row wk bk 0 _ _ _ hrk]; rfl
        have q1 : wk.cell? ⟨bk, 1, none⟩ = some (.int .i64 (yn : Int)) := by rw [cell_of_row wk bk 1 _ _ _ hrk]; rfl
        have KK := Lib.hid kk
        have HWC := Lib.hid (wallowed_any fa fn fc m HM.out yi wk (HF.out.keep0 (kw.tr kk)))
        obtain ⟨t, ht⟩ : ∃ t, t = takeK m (yi, yn) := ⟨_, rfl⟩
        rw [← ht] at HST
        have HT : Hid (t = (decide (yi ≠ -1) && allowedB m yi)) := Lib.hid ht
        clear hz hrk kk hbk d0 d1 kw ht
        simp only [Act.put]
        go_cut [54] (fun v54 wx => v54 = .bool t ∧ wx = wk)
        case first =>
          by_cases h1 : yi = -1
          · subst h1
            have htf : t = false := by rw [HT.out]; rfl
            go_wp2_with fail
            go_meet
            exact ⟨by rw [htf], rfl⟩
          · have hb : (yi != -1) = true := by simpa using h1
            have htt : t = allowedB m yi := by rw [HT.out, decide_eq_true h1]; rfl
            rw [← htt] at HWC
            go_wp2_with fail
            refine HWC.out.mono ?_
            rintro e w13 ⟨rfl, rfl⟩
            go_wp2_with fail
            go_meet
            exact ⟨by rw [htt], rfl⟩
        obtain ⟨rfl, rfl⟩ := hcut
        obtain ⟨w5, rfl⟩ : ∃ w5 : World, w5 = wc := ⟨_, rfl⟩
        have HO5 := Lib.hid (HO.out.keep0 KK.out)
        have HK5 := Lib.hid (HK.out.tr KK.out)
        cases t
        · have HS : Hid (someK m (ykids.take (s + 1)) = someK m (ykids.take s)) := Lib.hid (by rw [HST.out]; simp)
          go_wp2_with fail
          go_roundw
          case rel => exact ⟨s + 1, ln, la, lc, hlt, by omega, by go_num, rfl, Lib.hid (by rw [HS.out]; exact HLN.out), Lib.hid (by rw [HS.out]; exact HO5.out), HK5⟩
          case measure => simp [intOf]; omega
        · have HS : Hid (someK m (ykids.take (s + 1)) = someK m (ykids.take s) ++ [yn]) := Lib.hid (by rw [HST.out]; simp)
          have HNL : Hid (ln = (nums (someK m (ykids.take s))).length) := Lib.hid (by rw [nums_len]; exact HLN.out)
          have HSZ2 : Hid (w2.heap.size ≤ w5.heap.size) := Lib.hid HK5.out.size
          go_wp2_with (at_builtin; refine wpList_app rfl (.tmp 55) (.tmp 58) 23 23 rfl w2.heap.size 3 .i64 8 Try.underlying23 infoInt la lc ln _ HNL.out [(yn : Int)] _ 1 rfl rfl rfl (HO5.out.alloc _) (src_one Try.underlying23 (one_cell (heap_alloc_at rfl)).1) (by omega) (by omega) (by have := HSZ2.out; simp only [World.size_alloc]; omega) ?_; intro la1 lc1 w7 ho7 kp7 _ _; have HO7 := Lib.hid ho7; have HK7 : Hid (Kp [] w2 w7) := Lib.hid ((HK5.out.alloc _).trans kp7 (by simp) (fun b hb => .inr (HO5.out.ob_ge b hb).1)); clear ho7 kp7)
          go_roundw
          case rel => exact ⟨s + 1, ln + 1, la1, lc1, hlt, by omega, by go_num, by go_num, Lib.hid (by rw [HS.out, List.length_append, ← HLN.out]; rfl), Lib.hid (by rw [HS.out, nums_app]; exact HO7.out), HK7⟩
          case measure => simp [intOf]; omega
      · obtain rfl : s = ykn := by omega
        have HFIN : Hid (someK m (ykids.take s) = belowP ykids m b) := Lib.hid (by
          rw [HBL.out, List.take_of_length_le (by rw [← HKN.out]; exact Nat.le_refl _)])
        go_wp2_with fail
        go_ret
        exact ⟨la, lc, by rw [← HFIN.out, ← HLN.out]; rfl, by rw [← HFIN.out]; exact HO.out.mono HSZ.out, K1.out.tr HK.out⟩
end Go.Proofs.Ythmaobmgogmaoaa
