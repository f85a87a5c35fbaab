/-
  Star-trees: StarNodes.
-/
import Derived.Test.YthmaobmgogmaoaaStbD
namespace Go.Proofs.Ythmaobmgogmaoaa
open Go.RowKit Go.Shelf
set_option linter.unusedSimpArgs false
set_option linter.unusedVariables false
set_option maxRecDepth 100000

def cntL (M : Nat) (L : List Nat) : List Int := (List.range M).map fun j => (L.count j : Int)
theorem cntL_len (M : Nat) (L : List Nat) : (cntL M L).length = M := by simp [cntL]
theorem cntL_nth {M j : Nat} (L : List Nat) (h : j < M) : nth (cntL M L) j = (L.count j : Int) := by simp [cntL, nth, h]
theorem cntL_nil (M : Nat) : cntL M [] = List.replicate M 0 := by
  refine List.ext_getElem (by simp [cntL]) fun i h1 h2 => ?_
  simp [cntL]
theorem cntL_set {M c : Nat} (L : List Nat) (h : c < M) : (cntL M L).set c ((L.count c : Int) + 1) = cntL M (L ++ [c]) := by
  refine List.ext_getElem (by simp [cntL]) fun i h1 h2 => ?_
  rw [List.length_set, cntL_len] at h1
  rw [List.getElem_set]
  by_cases e : c = i
  · subst e
    rw [if_pos rfl]
    simp [cntL, List.count_append]
  · rw [if_neg e]
    have e2 : (c == i) = false := by simpa using e
    simp only [cntL, List.getElem_map, List.getElem_range, List.count_append, List.count_singleton, e2]
    simp
/-- A node in a variable. -/
def NRow (w : World) (b d f t : Nat) (ka : Option Addr) (kn kc : Nat) : Prop := w.heap[b]? = some (.cells #[.int .i64 (d : Int), .int .i64 (f : Int), .int .i64 (t : Int), .slice ka kn kc] 40)
theorem NRow.c0 {w : World} {b d f t : Nat} {ka : Option Addr} {kn kc : Nat} (h : NRow w b d f t ka kn kc) : w.cell? ⟨b, 0, none⟩ = some (.int .i64 (d : Int)) := by rw [cell_of_row w b 0 _ _ _ h]; rfl
theorem NRow.c1 {w : World} {b d f t : Nat} {ka : Option Addr} {kn kc : Nat} (h : NRow w b d f t ka kn kc) : w.cell? ⟨b, 1, none⟩ = some (.int .i64 (f : Int)) := by rw [cell_of_row w b 1 _ _ _ h]; rfl
theorem NRow.c2 {w : World} {b d f t : Nat} {ka : Option Addr} {kn kc : Nat} (h : NRow w b d f t ka kn kc) : w.cell? ⟨b, 2, none⟩ = some (.int .i64 (t : Int)) := by rw [cell_of_row w b 2 _ _ _ h]; rfl
theorem NRow.c3 {w : World} {b d f t : Nat} {ka : Option Addr} {kn kc : Nat} (h : NRow w b d f t ka kn kc) : w.cell? ⟨b, 3, none⟩ = some (.slice ka kn kc) := by rw [cell_of_row w b 3 _ _ _ h]; rfl
theorem NRow.rg {w : World} {b d f t : Nat} {ka : Option Addr} {kn kc : Nat} (h : NRow w b d f t ka kn kc) : w.rangeAt b 0 [.int .i64 (d : Int), .int .i64 (f : Int), .int .i64 (t : Int), .slice ka kn kc] := range_row h

set_option maxHeartbeats 6400000 in
theorem starNodes_any (sa : Option Addr) (sn sc : Nat) (S : List Ih) (hS : sn = S.length) (ma : Option Addr) (mn mc : Nat) (many : List Int) (hM : mn = many.length) (da : Option Addr) (dn dc : Nat) (D : List Ih) (hD : dn = D.length) (leaf : Int) (w : World) (hs : RdI w sa sc S) (hm : Rd w .i64 ma mc many) (hd : RdI w da dc D) :
    Calls Try.prog 4 #[.slice sa sn sc, .slice ma mn mc, .slice da dn dc, .int .i64 leaf] w fun e w' => e = .returned (.bool true) ∧ Kp [] w w' := by
  have HS := Lib.hid hs
  have HM := Lib.hid hm
  have HD := Lib.hid hd
  have HSN := Lib.hid hS
  have HMN := Lib.hid hM
  have HDN := Lib.hid hD
  have hc1 : mn ≤ mc := by rw [hM]; exact hm.1
  have hc2 := hm.2.1
  have hsc : sn ≤ sc := by rw [hS]; exact hs.1.1
  have hsc2 := hs.1.2.1
  have HGR := Lib.hid (r19Great_any sa sn sc S hS da dn dc D hD 80 w hs hd)
  have HSL : Hid ((lis S).length = sn) := Lib.hid (by rw [hS]; simp [lis])
  have HDL : Hid ((lis D).length = dn) := Lib.hid (by rw [hD]; simp [lis])
  obtain ⟨v, hv⟩ : ∃ v, v = great19 (lis S) (lis D) 80 := ⟨_, rfl⟩
  rw [← hv] at HGR
  have HV := Lib.hid hv
  clear hs hm hd hS hM hD hv
  go_enter Try.func4, Try.ntmps4
  go_wp2_with fail
  refine HGR.out.mono ?_
  rintro e w1 ⟨rfl, rfl⟩
  cases v
  rotate_left
  · go_wp2_with fail
    refine (known19_any w1).mono ?_
    rintro e w2 ⟨rfl, kp2⟩
    go_wp2_with fail
    go_ret
    exact ⟨rfl, kp2⟩
  by_cases h10 : (10 : Int) < (mn : Int)
  · go_wp2_with fail
    refine (known19_any w1).mono ?_
    rintro e w2 ⟨rfl, kp2⟩
    go_wp2_with fail
    go_ret
    exact ⟨rfl, kp2⟩
  have hgr := great_no HV.out.symm
  have hr0 := row0_le hgr.1
  have hs10 : sn ≤ 10 := by have := hgr.2.2.1; rw [HSL.out] at this; exact this
  have hd10 : dn ≤ 10 := by have := hgr.2.2.2; rw [HDL.out] at this; exact this
  have HR0 := Lib.hid hr0
  have HOF := Lib.hid (stOf_any sa sn sc S HSN.out ma mn mc many HMN.out da dn dc D HDN.out leaf w1 HS.out HM.out HD.out hr0)
  clear hgr hr0
  go_wp2_with fail
  refine HOF.out.mono ?_
  rintro e w2 ⟨kp2, ⟨h1, rfl⟩ | ⟨hmay, T, lf, rfl, hlf, hT, ra, rc, RL, na, nc, NL, hTr, hEq⟩⟩
  · go_wp2_with fail
    refine (known19_any w2).mono ?_
    rintro e w3 ⟨rfl, kp3⟩
    have HF := Lib.hid (kp2.tr kp3)
    clear kp2 kp3
    go_wp2_with fail
    go_ret
    exact ⟨rfl, HF.out⟩
  rw [HSL.out, HDL.out] at hTr
  have hok := mayS_ok hmay
  rw [HSL.out] at hok
  obtain ⟨hk1, hk8, -, -, -, -, -, -⟩ := hok
  obtain ⟨R, hR⟩ : ∃ R, R = RL.map (pr sn) := ⟨_, rfl⟩
  obtain ⟨N, hN⟩ : ∃ N, N = NL.map pn := ⟨_, rfl⟩
  have hRof : (ofP (lis S) (lis D) lf).R = R := by rw [← hEq, hR, HSL.out]
  have hNof : (ofP (lis S) (lis D) lf).N = N := by rw [← hEq, hN]
  obtain ⟨hM0, hnode, hcnt⟩ := nodes_law (S := lis S) (M := lis D) (leaf := lf) (n := (rowP (lis S) 0).length) rfl HR0.out (mayS_ge hmay)
  have hbd := ofP_bound (lis S) (lis D) lf (by rw [HSL.out]; exact hk8) HR0.out
  rw [hRof, hNof] at hnode
  rw [hNof] at hM0 hcnt
  rw [hRof, hNof] at hbd
  rw [HSL.out] at hnode
  obtain ⟨rl, hrl⟩ : ∃ rl, rl = RL.length := ⟨_, rfl⟩
  obtain ⟨M, hMl⟩ : ∃ M, M = NL.length := ⟨_, rfl⟩
  have HRL : Hid (R.length = rl) := Lib.hid (by rw [hR, List.length_map, hrl])
  have HNL : Hid (N.length = M) := Lib.hid (by rw [hN, List.length_map, hMl])
  have HRLE := Lib.hid hrl
  have HMLE := Lib.hid hMl
  rw [HNL.out] at hM0 hnode hcnt hbd
  rw [HRL.out] at hbd
  obtain ⟨hrb, hMb⟩ := hbd
  have HTR : Hid (TreeH T sn dn lf w1.heap.size (fun _ => False) ra rc RL na nc NL w2) := Lib.hid hTr
  have HREQ := Lib.hid hR
  have HNEQ := Lib.hid hN
  have HNODE := Lib.hid hnode
  have HCNT := Lib.hid hcnt
  have HK2 := Lib.hid kp2
  have HKB : Hid (∀ y ∈ NL, y.kids.length ≤ 100000000) := Lib.hid (fun y hy => by
    obtain ⟨i, hi, rfl⟩ := List.getElem_of_mem hy
    obtain ⟨z, hz1, hz2⟩ := hnode i (by rw [hMl]; exact hi)
    have e : z = pn NL[i] := by rw [hN, List.getElem?_map, List.getElem?_eq_getElem hi] at hz1; cases hz1; rfl
    have h1 := hz2.few
    have h2 := hz2.tR
    rw [HRL.out] at h2
    rw [e] at h1 h2
    show (pn NL[i]).kids.length ≤ _
    omega)
  subst hlf
  clear hmay hT hTr hEq kp2 hR hN hRof hNof hnode hcnt hrl hMl
  go_wp2_with fail
  refine (stNodes_any HTR.out hk1).mono ?_
  rintro e w3 ⟨rfl, rfl⟩
  rw [← HMLE.out]
  have hmk : ∀ wx : World, _ := fun wx => make_ints (P := Try.prog) wx 23 3 .i64 .i64 .i64 M 8 Try.underlying23 infoInt (by omega) (by omega)
  go_upto_region 7 with (fail)
  obtain ⟨P, hP⟩ : ∃ P, P = w3.heap.size := ⟨_, rfl⟩
  obtain ⟨w4, hw4⟩ : ∃ w4, w4 = w3.alloc (Obj.cells (ints .i64 (List.replicate M 0)) 3) := ⟨_, rfl⟩
  rw [← hw4, ← hP]
  have k4 : Kp [] w3 w4 := by rw [hw4]; exact (Kp.refl [] w3).alloc _
  have HOW : Hid (Own w4 w3.heap.size 3 .i64 (some ⟨P, 0, none⟩) M (cntL M (flatK N 0 0))) := Lib.hid (by
    rw [flatK_nil, cntL_nil]
    have := Own.row (w := w4) (base := w3.heap.size) (e := 3) (k := .i64) (g := P) (zs := List.replicate M 0) (by rw [hP]; exact Nat.le_refl _) (by rw [hw4]; exact heap_alloc_at hP) (by simp; omega)
    simpa using this)
  have HPW : Hid (w3.heap.size ≤ P) := Lib.hid (by rw [hP]; exact Nat.le_refl _)
  have K4 := Lib.hid k4
  have HT4 := Lib.hid (HTR.out.keep0 k4)
  clear hmk hw4 hP k4
  go_wp2_with fail
  refine (stNodes_any HT4.out hk1).mono ?_
  rintro e w5 ⟨rfl, rfl⟩
  rw [← HMLE.out]
  clear HT4
  go_wp2_with fail
  go_loopw [54] (fun vi wr => ∃ i : Nat, i ≤ M ∧ vi = .int .i64 i ∧ Hid (Own wr w3.heap.size 3 .i64 (some ⟨P, 0, none⟩) M (cntL M (flatK N 0 i))) ∧ Hid (Kp [] w3 wr)) (fun vi _ => M - (intOf vi).toNat)
  case atStart => exact ⟨0, Nat.zero_le _, rfl, HOW, K4⟩
  case round =>
    obtain ⟨i, hi, rfl, HO, HK⟩ := hrel
    obtain ⟨wo, rfl⟩ : ∃ wo : World, wo = wr := ⟨_, rfl⟩
    by_cases hlt : i < M
    · obtain ⟨y0, hy0, hni⟩ := HNODE.out i hlt
      have HND := Lib.hid (stNode_at wo (HTR.out.keep0 HK.out) hk1 HKB.out i (by rw [← HNEQ.out]; exact hy0))
      have HY0 := Lib.hid hy0
      have HNI := Lib.hid hni
      clear hy0 hni
      go_wp2_with fail
      refine HND.out.mono ?_
      rintro e w11 ⟨y, rfl, hy, hyn, hyo, kpw11⟩
      subst hy
      obtain ⟨yd, yf, yt, yka, ykn, ykc, ykids⟩ := y
      have hft : yf ≤ yt := HNI.out.ft
      have htR : yt ≤ rl := by have := HNI.out.tR; rw [HRL.out] at this; exact this
      have hdk : yd ≤ sn := HNI.out.dk
      have HOKY : Hid (ListOk sn yd (seg R yf yt)) := Lib.hid HNI.out.ok
      have HSM : Hid ((yd = sn ∨ yt - yf ≤ lf) ↔ ykids = []) := Lib.hid HNI.out.small
      have HKN : Hid (ykn = ykids.length) := Lib.hid hyn
      have hknb : ykn ≤ 100001 := by
        have h1 : ykids.length ≤ yt - yf + 1 := HNI.out.few
        rw [HKN.out]; omega
      clear hyn
      unfold nodeV
      go_upto_region 11 with (refine wpList_store_row rfl 40 _ _ rfl w11.heap.size #[.int .i64 (yd : Int), .int .i64 (yf : Int), .int .i64 (yt : Int), .slice yka ykn ykc] rfl rfl 40 _ (heap_alloc_at rfl) (by kernel_rfl) rfl (by simp [Value.oneCell']) ?_)
      obtain ⟨bn, hbn⟩ : ∃ p, p = w11.heap.size := ⟨_, rfl⟩
      generalize hz : (w11.alloc (Obj.cells _ _)).setRow _ _ = w12
      rw [← hbn] at hz ⊢
      have hrn : NRow w12 bn yd yf yt yka ykn ykc := by rw [← hz]; exact setRow_heap _ bn _ _ _ _ (heap_alloc_at hbn)
      have k12 : Kp [] w11 w12 := by rw [← hz]; exact ((Kp.refl [] w11).alloc _).setRowF _ _ (.inr (by omega))
      have HRN := Lib.hid hrn
      have K12 := Lib.hid (kpw11.tr k12)
      have HKO := Lib.hid (hyo.keep0 k12)
      clear hz hrn k12 hbn hyo kpw11 HND
      go_cut [90] (fun v90 wx => v90 = .bool false ∧ Hid (Kp [] w12 wx))
      case first => as_aux_lemma =>
        have n0 := HRN.out.c0
        have n1 := HRN.out.c1
        have n2 := HRN.out.c2
        have HRC : Hid (∀ q, Calls Try.prog 14 #[.pointer (some ⟨T, 0, none⟩)] (w12.drewN q) fun e w' => e = .returned (.int .i64 ((rl : Nat) : Int)) ∧ w' = w12.drewN q) := Lib.hid (fun q => by
          rw [HRLE.out]; exact stRecords_any (HTR.out.keep0 ((HK.out.tr K12.out).tr (kdNs _ _))) hk1)
        have d1 : decide ((yf : Int) < 0) = false := by simp
        have d2 : decide ((yt : Int) < (yf : Int)) = false := by simp; omega
        have d3 : decide ((rl : Int) < (yt : Int)) = false := by simp; omega
        have d4 : decide ((sn : Int) < (yd : Int)) = false := by simp; omega
        go_wp2_with go_quiet ((go_at_call 14; with_reducible exact Calls.quiet_of_same (HRC.out _)))
        go_meet
        exact ⟨by simp; omega, Lib.hid (kdNs _ _)⟩
      obtain ⟨rfl, HK13⟩ := hcut
      obtain ⟨w13, rfl⟩ : ∃ w13 : World, w13 = wc := ⟨_, rfl⟩
      have HRN13 : Hid (NRow w13 bn yd yf yt yka ykn ykc) := Lib.hid (HK13.out.get HRN.out (by simp))
      obtain ⟨sm, hsm⟩ : ∃ sm : Bool, sm = decide (ykn = 0) := ⟨_, rfl⟩
      have HSMB : Hid (sm = decide (yd = sn ∨ yt - yf ≤ lf)) := Lib.hid (by
        rw [hsm]
        refine decide_eq_decide.2 ?_
        rw [HSM.out, HKN.out]
        exact List.length_eq_zero_iff)
      have hk0 : ((ykn : Int) == 0) = sm := by
        rw [hsm]
        by_cases h : ykn = 0
        · subst h; rfl
        · have h2 : ¬ (ykn : Int) = 0 := by omega
          simp [h, h2]
      have HSM0 := Lib.hid hsm
      clear hsm
      go_upto_region 13 with (fail)
      go_cut [15] (fun v15 wx => v15 = .bool sm ∧ wx = w13)
      case first => as_aux_lemma =>
        have n0 := HRN13.out.c0
        have n1 := HRN13.out.c1
        have n2 := HRN13.out.c2
        clear hk0
        obtain ⟨sz, hsz⟩ : ∃ sz, sz = yt - yf := ⟨_, rfl⟩
        have hws : IntKind.i64.wrap ((yt : Int) - (yf : Int)) = (sz : Int) := by rw [IntWalk.i64_in _ (by omega)]; omega
        have HSZ := Lib.hid hsz
        clear hsz
        by_cases hdd : yd = sn
        · have hb : ((yd : Int) == (sn : Int)) = true := by simp [hdd]
          have hsmt : sm = true := by rw [HSMB.out]; exact decide_eq_true (.inl hdd)
          go_wp2_with fail
          go_meet
          exact ⟨by rw [hsmt], rfl⟩
        · have hb : ((yd : Int) == (sn : Int)) = false := by simp; omega
          by_cases hll : (sz : Int) ≤ (lf : Int)
          · have hsmt : sm = true := by rw [HSMB.out]; exact decide_eq_true (.inr (by have := HSZ.out; omega))
            go_wp2_with fail
            go_meet
            exact ⟨by rw [hsmt], rfl⟩
          · have hsmt : sm = false := by rw [HSMB.out]; exact decide_eq_false (by have := HSZ.out; omega)
            go_wp2_with fail
            go_meet
            exact ⟨by rw [hsmt], rfl⟩
      obtain ⟨rfl, rfl⟩ := hcut
      obtain ⟨w14, rfl⟩ : ∃ w14 : World, w14 = wc := ⟨_, rfl⟩
      have n1 := HRN13.out.c1
      have n3 := HRN13.out.c3
      have HKP : Hid (Kp [] w3 w14) := Lib.hid ((HK.out.tr K12.out).tr HK13.out)
      have HKO14 := Lib.hid (HKO.out.keep0 HK13.out)
      have HO14 := Lib.hid (HO.out.keep0 (K12.out.tr HK13.out))
      have HPT : Hid (∃ cur fr, w14.heap[P]? = some (.cells cur 3 fr)) := Lib.hid (by
        rcases HO14.out with ⟨h, h'⟩ | ⟨g, cur, h1, h2, h3, -⟩
        · have := cntL_len M (flatK N 0 i); rw [h'] at this; simp at this; omega
        · cases h1; exact ⟨cur, _, h3⟩)
      have hnc : ykn ≤ ykc := by rw [HKN.out]; exact (HKO14.out.rd kdlies).1
      have hnc2 := (HKO14.out.rd kdlies).2.1
      go_wp2_with fail
      --LOOP2
      go_loopw [16, 116] (fun va vs wr => ∃ s : Nat, s ≤ ykn ∧ vs = .int .i64 s ∧ va = .int .i64 ((atN N (ykids.take s) yf : Nat) : Int) ∧ Hid (Own wr w3.heap.size 3 .i64 (some ⟨P, 0, none⟩) M (cntL M (flatK N 0 i ++ (ykids.take s).map (·.2)))) ∧ Hid (Kp [P] w14 wr)) (fun _ vs _ => ykn - (intOf vs).toNat)
      case atStart => exact ⟨0, Nat.zero_le _, rfl, rfl, Lib.hid (by simpa using HO14.out), Lib.hid (Kp.refl _ _)⟩
      case round =>
        obtain ⟨s, hsn, rfl, rfl, HOS, HKS⟩ := hrel
        obtain ⟨ws, rfl⟩ : ∃ ws : World, ws = wr := ⟨_, rfl⟩
        obtain ⟨at1, hat1⟩ : ∃ at1, at1 = atN N (ykids.take s) yf := ⟨_, rfl⟩
        rw [← hat1]
        have HAT1 := Lib.hid hat1
        clear hat1
        have HK3S : Hid (Kp [] w3 ws) := Lib.hid (HKP.out.trans HKS.out (by simp) (fun b hb => by simp at hb; subst hb; exact .inr HPW.out))
        have HNP : Hid (bn ∉ [P]) := Lib.hid (by
          intro hb
          simp at hb
          subst hb
          obtain ⟨cur, fr, h1⟩ := HPT.out
          have h2 := HRN13.out
          unfold NRow at h2
          rw [h1] at h2
          have h3 := Option.some.inj h2
          injection h3 with h4 h5
          exact absurd h5 (by decide))
        have HRNS : Hid (NRow ws bn yd yf yt yka ykn ykc) := Lib.hid (HKS.out.get HRN13.out HNP.out)
        by_cases hlts : s < ykn
        · have hsl : s < ykids.length := by rw [← HKN.out]; exact hlts
          have HKOS : Hid (OwnS kdcells 2 ws wo.heap.size 44 yka ykc ykids) := Lib.hid (HKO14.out.keep HKS.out (fun b hb hb2 => by
            simp at hb2; subst hb2
            obtain ⟨cur, fr, h1⟩ := HPT.out
            exact own_ne HKO14.out h1 (by decide) hb))
          obtain ⟨b1, off1, rfl, d0, d1⟩ := kids_at (HKOS.out.rd kdlies) hsl
          have HGK : Hid (ykids[s]? = some ykids[s]) := Lib.hid (List.getElem?_eq_getElem hsl)
          obtain ⟨⟨xi, xn⟩, hxv⟩ : ∃ v, v = ykids[s] := ⟨_, rfl⟩
          rw [← hxv] at d0 d1 HGK
          dsimp only at d0 d1
          obtain ⟨z0, hz0⟩ := HNI.out.kid s (xi, xn) HGK.out
          have HKI := Lib.hid hz0
          have hixn : i < xn := hz0.gt
          have hxM : xn < M := by have h1 := (List.getElem?_eq_some_iff.1 hz0.at').1; rw [HNL.out] at h1; exact h1
          clear hxv hsl hz0 n1 n3 hk0
          go_upto_region 20 with (refine wpList_store_row rfl 44 _ _ rfl ws.heap.size #[.int .i64 xi, .int .i64 (xn : Int)] rfl rfl 44 _ (heap_alloc_at rfl) (by kernel_rfl) rfl (by simp [Value.oneCell']) ?_)
          obtain ⟨bk, hbk⟩ : ∃ p, p = ws.heap.size := ⟨_, rfl⟩
          generalize hz : (ws.alloc (Obj.cells _ _)).setRow _ _ = wk
          rw [← hbk] at hz ⊢
          have hrk : wk.heap[bk]? = some (.cells #[.int .i64 xi, .int .i64 (xn : Int)] 44) := by rw [← hz]; exact setRow_heap _ bk _ _ _ _ (heap_alloc_at hbk)
          have kk : Kp [] ws wk := by rw [← hz]; exact ((Kp.refl [] ws).alloc _).setRowF _ _ (.inr (by omega))
          have HRK := Lib.hid hrk
          have KK := Lib.hid kk
          clear hz hrk kk hbk d0 d1
          simp only [Act.put]
          go_cut [130] (fun v130 wx => v130 = .bool false ∧ Hid (Kp [] wk wx))
          case first => as_aux_lemma =>
            have q1 : wk.cell? ⟨bk, 1, none⟩ = some (.int .i64 (xn : Int)) := by rw [cell_of_row wk bk 1 _ _ _ HRK.out]; rfl
            have HNC : Hid (∀ q, Calls Try.prog 16 #[.pointer (some ⟨T, 0, none⟩)] (wk.drewN q) fun e w' => e = .returned (.int .i64 ((M : Nat) : Int)) ∧ w' = wk.drewN q) := Lib.hid (fun q => by
              rw [HMLE.out]; exact stNodes_any (HTR.out.keep0 ((HK3S.out.tr KK.out).tr (kdNs _ _))) hk1)
            have d1 : decide ((xn : Int) ≤ (i : Int)) = false := by simp; omega
            have d2 : decide ((M : Int) ≤ (xn : Int)) = false := by simp; omega
            go_wp2_with go_quiet ((go_at_call 16; with_reducible exact Calls.quiet_of_same (HNC.out _)))
            go_meet
            exact ⟨by first | rfl | (simp; omega), Lib.hid (kdNs _ _)⟩
          obtain ⟨rfl, HK20⟩ := hcut
          obtain ⟨wl, rfl⟩ : ∃ wl : World, wl = wc := ⟨_, rfl⟩
          have HRKL : Hid (wl.heap[bk]? = some (.cells #[.int .i64 xi, .int .i64 (xn : Int)] 44)) := Lib.hid (HK20.out.get HRK.out (by simp))
          have q1 : wl.cell? ⟨bk, 1, none⟩ = some (.int .i64 (xn : Int)) := by rw [cell_of_row wl bk 1 _ _ _ HRKL.out]; rfl
          have HOL : Hid (Own wl w3.heap.size 3 .i64 (some ⟨P, 0, none⟩) M (cntL M (flatK N 0 i ++ (ykids.take s).map (·.2)))) := Lib.hid (HOS.out.keep0 (KK.out.tr HK20.out))
          obtain ⟨cc, hcc⟩ : ∃ cc : Nat, cc = (flatK N 0 i ++ (ykids.take s).map (·.2)).count xn := ⟨_, rfl⟩
          have HCC := Lib.hid hcc
          have hccb : cc ≤ 1 := by
            have h1 := HCNT.out xn
            have e1 := flatK_split N (Nat.zero_le (i + 1)) (show i + 1 ≤ M by omega) (by rw [HNL.out]; exact Nat.le_refl _)
            have e2 := flatK_split N (Nat.zero_le i) (Nat.le_succ i) (show i + 1 ≤ N.length by rw [HNL.out]; omega)
            have e3 : flatK N i (i + 1) = kidNs (pn ⟨yd, yf, yt, some ⟨b1, off1, none⟩, ykn, ykc, ykids⟩) := flatK_one HY0.out
            have e4 : ((ykids.take s).map (·.2)).count xn ≤ (ykids.map (·.2)).count xn := ((List.take_sublist s ykids).map _).count_le xn
            rw [e1, e2, e3, List.count_append, List.count_append] at h1
            have e5 : kidNs (pn ⟨yd, yf, yt, some ⟨b1, off1, none⟩, ykn, ykc, ykids⟩) = ykids.map (·.2) := rfl
            rw [e5] at h1
            rw [hcc, List.count_append]
            split at h1 <;> omega
          obtain ⟨gP, hgP, c135, f135, -, hmP⟩ := HOL.out.at' (i := xn) (by rw [cntL_len]; exact hxM)
          cases hgP
          rw [cntL_nth _ hxM, ← hcc] at c135
          have HO22 : Hid (Own (wl.setCell ⟨P, xn, none⟩ (.int .i64 ((cc : Int) + 1))) w3.heap.size 3 .i64 (some ⟨P, 0, none⟩) M (cntL M (flatK N 0 i ++ (ykids.take (s + 1)).map (·.2)))) := Lib.hid (by
            have h1 := HOL.out.set xn ((cc : Int) + 1)
            rw [HCC.out, cntL_set _ hxM] at h1
            rw [take_snoc HGK.out, List.map_append, ← List.append_assoc]
            rw [HCC.out]; exact h1)
          have hwc : IntKind.i64.wrap ((cc : Int) + 1) = (cc : Int) + 1 := IntWalk.i64_in _ (by omega)
          have k22 : Kp [P] wl (wl.setCell ⟨P, xn, none⟩ (.int .i64 ((cc : Int) + 1))) := (Kp.refl [P] wl).setCell _ _ (by simp)
          have HK22 : Hid (Kp [P] w14 (wl.setCell ⟨P, xn, none⟩ (.int .i64 ((cc : Int) + 1)))) := Lib.hid ((HKS.out.trans (KK.out.tr HK20.out) (U := [P]) (fun _ h => .inl h) (by simp)).trans k22 (fun _ h => .inl h) (fun _ h => .inl h))
          have hbkP : bk ∉ [P] := by
            intro hb
            simp at hb
            subst hb
            obtain ⟨cur, fr, h1⟩ := HPT.out
            have h0 := HKS.out
            rcases HOL.out with ⟨h, h'⟩ | ⟨g, cur2, g1, g2, g3, -⟩
            · have := cntL_len M (flatK N 0 i ++ (ykids.take s).map (·.2)); rw [h'] at this; simp at this; omega
            · cases g1
              have h2 := HRKL.out
              rw [g3] at h2
              have h3 := Option.some.inj h2
              injection h3 with h4 h5
              exact absurd h5 (by decide)
          have HRK22 : Hid ((wl.setCell ⟨P, xn, none⟩ (.int .i64 ((cc : Int) + 1))).heap[bk]? = some (.cells #[.int .i64 xi, .int .i64 (xn : Int)] 44)) := Lib.hid (k22.get HRKL.out hbkP)
          clear hcc k22 hbkP hmP
          go_upto_region 23 with (fail)
          generalize wl.setCell ⟨P, xn, none⟩ (.int .i64 ((cc : Int) + 1)) = wm at *
          have HK3M : Hid (Kp [] w3 wm) := Lib.hid (HKP.out.trans HK22.out (by simp) (fun b hb => by simp at hb; subst hb; exact .inr HPW.out))
          have q1 : wm.cell? ⟨bk, 1, none⟩ = some (.int .i64 (xn : Int)) := by rw [cell_of_row wm bk 1 _ _ _ HRK22.out]; rfl
          have HND2 := Lib.hid (stNode_at wm (HTR.out.keep0 HK3M.out) hk1 HKB.out xn (by rw [← HNEQ.out]; exact HKI.out.at'))
          clear c135 f135 hwc
          go_wp2_with fail
          refine HND2.out.mono ?_
          rintro e w21 ⟨z, rfl, hz, -, -, kpw21⟩
          subst hz
          obtain ⟨zd, zf, zt, zka, zkn, zkc, zkids⟩ := z
          have HZD : Hid (zd = yd + 1) := Lib.hid HKI.out.d
          have hzft : zf ≤ zt := HKI.out.ft
          have hztR : zt ≤ rl := by have := HKI.out.tR; rw [HRL.out] at this; exact this
          have HOKZ : Hid (ListOk sn zd (seg R zf zt)) := Lib.hid HKI.out.ok
          have hydk : yd < sn := HKI.out.dk
          unfold nodeV
          go_upto_region 24 with (refine wpList_store_row rfl 40 _ _ rfl w21.heap.size #[.int .i64 (zd : Int), .int .i64 (zf : Int), .int .i64 (zt : Int), .slice zka zkn zkc] rfl rfl 40 _ (heap_alloc_at rfl) (by kernel_rfl) rfl (by simp [Value.oneCell']) ?_)
          obtain ⟨bz, hbz⟩ : ∃ p, p = w21.heap.size := ⟨_, rfl⟩
          generalize hz : (w21.alloc (Obj.cells _ _)).setRow _ _ = w22
          rw [← hbz] at hz ⊢
          have hrz : NRow w22 bz zd zf zt zka zkn zkc := by rw [← hz]; exact setRow_heap _ bz _ _ _ _ (heap_alloc_at hbz)
          have k22 : Kp [] w21 w22 := by rw [← hz]; exact ((Kp.refl [] w21).alloc _).setRowF _ _ (.inr (by omega))
          have HRZ := Lib.hid hrz
          have K22 := Lib.hid (kpw21.tr k22)
          have HRN22 : Hid (NRow w22 bn yd yf yt (some ⟨b1, off1, none⟩) ykn ykc) := Lib.hid (K22.out.get (HK22.out.get HRN13.out HNP.out) (by simp))
          have HRKZ : Hid (w22.heap[bk]? = some (.cells #[.int .i64 xi, .int .i64 (xn : Int)] 44)) := Lib.hid (K22.out.get HRK22.out (by simp))
          clear hz hrz k22 hbz kpw21 q1 HND2
          obtain ⟨cz, hcz⟩ : ∃ cz, cz = csum (seg R zf zt) := ⟨_, rfl⟩
          obtain ⟨cy, hcy⟩ : ∃ cy, cy = csum (seg R yf yt) := ⟨_, rfl⟩
          have HCZ : Hid (∀ W, Kp [] w22 W → Calls Try.prog 18 #[.pointer (some ⟨T, 0, none⟩), .agg #[.int .i64 (zd : Int), .int .i64 (zf : Int), .int .i64 (zt : Int), .slice zka zkn zkc]] W fun e w' => e = .returned (.int .i64 cz) ∧ Kp [] W w') := Lib.hid (fun W hW => by
            have := rows19_any W (HTR.out.keep0 ((HK3M.out.tr K22.out).tr hW)) hk1 hk8 (by omega) zd zf zt zka zkn zkc hzft (by rw [← HRLE.out]; exact hztR) (by omega) (by rw [← HREQ.out]; exact HOKZ.out)
            rw [← HREQ.out, ← hcz] at this; exact this)
          have HCY : Hid (∀ W, Kp [] w22 W → Calls Try.prog 18 #[.pointer (some ⟨T, 0, none⟩), .agg #[.int .i64 (yd : Int), .int .i64 (yf : Int), .int .i64 (yt : Int), .slice (some ⟨b1, off1, none⟩) ykn ykc]] W fun e w' => e = .returned (.int .i64 cy) ∧ Kp [] W w') := Lib.hid (fun W hW => by
            have := rows19_any W (HTR.out.keep0 ((HK3M.out.tr K22.out).tr hW)) hk1 hk8 (by omega) yd yf yt (some ⟨b1, off1, none⟩) ykn ykc hft (by rw [← HRLE.out]; exact htR) (by omega) (by rw [← HREQ.out]; exact HOKY.out)
            rw [← HREQ.out, ← hcy] at this; exact this)
          have hcz0 : 0 ≤ cz := by rw [hcz]; exact (HOKZ.out.pre hzft (Nat.le_refl _) (by rw [HRL.out]; exact hztR)).1
          have HCE : Hid (xi = -1 → cz = cy) := Lib.hid (fun h => by rw [hcz, hcy]; exact HKI.out.star h)
          clear hcz hcy
          have hwd : IntKind.i64.wrap ((yd : Int) + 1) = (zd : Int) := by rw [IntWalk.i64_in _ (by omega)]; have := HZD.out; omega
          have HWD := Lib.hid hwd
          clear hwd
          go_cut [174] (fun v174 wx => v174 = .bool false ∧ Hid (Kp [] w22 wx))
          case first => as_aux_lemma =>
            have d159 : decide (cz < 0) = false := by simp; omega
            by_cases hst : xi = -1
            · subst hst
              obtain rfl : cz = cy := HCE.out rfl
              refine wp_region_K (by kernel_rfl) [.val (.int .i64 0), .val (.bool false), .val (.bool false), .val (.pointer (some ⟨bz, 0, none⟩)), .val (.int .i64 (zd : Int)), .val (.pointer (some ⟨bn, 0, none⟩)), .val (.int .i64 (yd : Int)), .val (.int .i64 (zd : Int)), .val (.bool false), .val (.bool false), .val (.bool false), .val (.pointer (some ⟨T, 0, none⟩)), .val (.agg #[.int .i64 (zd : Int), .int .i64 (zf : Int), .int .i64 (zt : Int), .slice zka zkn zkc]), .val (.int .i64 cz), .val (.bool false), .val (.bool false), .val (.bool false), .val (.pointer (some ⟨bk, 0, none⟩)), .val (.int .i64 (-1)), .val (.bool true), .val (.bool true), .val (.pointer (some ⟨T, 0, none⟩)), .val (.agg #[.int .i64 (zd : Int), .int .i64 (zf : Int), .int .i64 (zt : Int), .slice zka zkn zkc]), .val (.int .i64 cz), .val (.pointer (some ⟨T, 0, none⟩)), .val (.agg #[.int .i64 (yd : Int), .int .i64 (yf : Int), .int .i64 (yt : Int), .slice (some ⟨b1, off1, none⟩) ykn ykc]), .val (.int .i64 cz), .val (.bool false), .val (.bool false), .val (.bool false)] [[(20, none)], [(145, some 0)], [(146, some 1)], [(147, some 2), (19, none)], [(147, some 2), (148, some 3)], [(147, some 2), (13, none)], [(147, some 2), (150, some 5)], [(147, some 2), (151, some 6)], [(147, some 2), (149, some 4), (152, some 7)], [(147, some 2), (153, some 8)], [(154, some 9)], [(155, some 10), (9, none)], [(155, some 10), (19, none)], [(155, some 10), (156, some 11), (157, some 12)], [(155, some 10), (158, some 13)], [(155, some 10), (159, some 14)], [(160, some 15)], [(161, some 16), (18, none)], [(161, some 16), (162, some 17)], [(161, some 16), (163, some 18)], [(161, some 16), (164, some 19)], [(165, some 20), (9, none)], [(165, some 20), (19, none)], [(165, some 20), (166, some 21), (167, some 22)], [(165, some 20), (9, none)], [(165, some 20), (13, none)], [(165, some 20), (169, some 24), (170, some 25)], [(165, some 20), (168, some 23), (171, some 26)], [(161, some 16), (165, some 20), (172, some 27)], [(161, some 16), (173, some 28)]] rfl (by kernel_rfl) ?_ ?_
              · refine ⟨?o0, ?o1, ?o2, ?o3, ?o4, ?o5, ?o6, ?o7, ?o8, ?o9, ?o10, ?o11, ?o12, ?o13, ?o14, ?o15, ?o16, ?o17, ?o18, ?o19, ?o20, ?o21, ?o22, ?o23, ?o24, ?o25, ?o26, ?o27, ?o28, ?o29, trivial⟩
                case o0 => intro aR wR hR; replace hR := hR.undrew; intro (h20 : aR.tmps[20]? = some (.int .i64 0)); exact exec_val (c := .int .i64 0) (wanted_none rfl) (by go_simp) rfl
                case o1 => intro aR wR hR; replace hR := hR.undrew; intro v145 h145 e145; replace e145 : v145 = .int .i64 0 := e145; subst e145; exact exec_val (c := .bool false) (wanted_none rfl) (by go_simp) rfl
                case o2 => intro aR wR hR; replace hR := hR.undrew; intro v146 h146 e146; replace e146 : v146 = .bool false := e146; subst e146; exact exec_val (c := .bool false) (wanted_none rfl) (by go_simp) rfl
                case o3 => intro aR wR hR; replace hR := hR.undrew; intro v147 h147 e147; replace e147 : v147 = .bool false := e147; subst e147; intro (h19 : aR.tmps[19]? = some (.pointer (some ⟨bz, 0, none⟩))); exact exec_val (c := .pointer (some ⟨bz, 0, none⟩)) (wanted_yes (b := false) (t := 147) rfl rfl h147) (by go_simp) rfl
                case o4 => intro aR wR hR; replace hR := hR.undrew; intro v147 h147 e147; replace e147 : v147 = .bool false := e147; subst e147; intro v148 h148 e148; replace e148 : v148 = .pointer (some ⟨bz, 0, none⟩) := e148; subst e148; (have h1 := (NRow.c0 (hR.get HRZ.out (by simp)))); exact exec_val (c := .int .i64 (zd : Int)) (wanted_yes (b := false) (t := 147) rfl rfl h147) (by go_simp) rfl
                case o5 => intro aR wR hR; replace hR := hR.undrew; intro v147 h147 e147; replace e147 : v147 = .bool false := e147; subst e147; intro (h13 : aR.tmps[13]? = some (.pointer (some ⟨bn, 0, none⟩))); exact exec_val (c := .pointer (some ⟨bn, 0, none⟩)) (wanted_yes (b := false) (t := 147) rfl rfl h147) (by go_simp) rfl
                case o6 => intro aR wR hR; replace hR := hR.undrew; intro v147 h147 e147; replace e147 : v147 = .bool false := e147; subst e147; intro v150 h150 e150; replace e150 : v150 = .pointer (some ⟨bn, 0, none⟩) := e150; subst e150; (have h1 := (NRow.c0 (hR.get HRN22.out (by simp)))); exact exec_val (c := .int .i64 (yd : Int)) (wanted_yes (b := false) (t := 147) rfl rfl h147) (by go_simp) rfl
                case o7 => intro aR wR hR; replace hR := hR.undrew; intro v147 h147 e147; replace e147 : v147 = .bool false := e147; subst e147; intro v151 h151 e151; replace e151 : v151 = .int .i64 (yd : Int) := e151; subst e151; (have hwd := HWD.out); exact exec_val (c := .int .i64 (zd : Int)) (wanted_yes (b := false) (t := 147) rfl rfl h147) (by go_simp) rfl
                case o8 => intro aR wR hR; replace hR := hR.undrew; intro v147 h147 e147; replace e147 : v147 = .bool false := e147; subst e147; intro v149 h149 e149; replace e149 : v149 = .int .i64 (zd : Int) := e149; subst e149; intro v152 h152 e152; replace e152 : v152 = .int .i64 (zd : Int) := e152; subst e152; exact exec_val (c := .bool false) (wanted_yes (b := false) (t := 147) rfl rfl h147) (by go_simp) rfl
                case o9 => intro aR wR hR; replace hR := hR.undrew; intro v147 h147 e147; replace e147 : v147 = .bool false := e147; subst e147; intro v153 h153 e153; replace e153 : v153 = .bool false := e153; subst e153; exact exec_val (c := .bool false) (wanted_none rfl) (by go_simp) rfl
                case o10 => intro aR wR hR; replace hR := hR.undrew; intro v154 h154 e154; replace e154 : v154 = .bool false := e154; subst e154; exact exec_val (c := .bool false) (wanted_none rfl) (by go_simp) rfl
                case o11 => intro aR wR hR; replace hR := hR.undrew; intro v155 h155 e155; replace e155 : v155 = .bool false := e155; subst e155; intro (h9 : aR.tmps[9]? = some (.pointer (some ⟨T, 0, none⟩))); exact exec_val (c := .pointer (some ⟨T, 0, none⟩)) (wanted_yes (b := false) (t := 155) rfl rfl h155) (by go_simp) rfl
                case o12 => intro aR wR hR; replace hR := hR.undrew; intro v155 h155 e155; replace e155 : v155 = .bool false := e155; subst e155; intro (h19 : aR.tmps[19]? = some (.pointer (some ⟨bz, 0, none⟩))); exact exec_val (c := .agg #[.int .i64 (zd : Int), .int .i64 (zf : Int), .int .i64 (zt : Int), .slice zka zkn zkc]) (wanted_yes (b := false) (t := 155) rfl rfl h155) (exec_ld rfl (b := bz) (o := 0) (by go_simp) (NRow.rg (hR.get HRZ.out (by simp))) Try.underlying40 rfl (by kernel_rfl)) rfl
                case o13 => intro aR wR hR; replace hR := hR.undrew; intro v155 h155 e155; replace e155 : v155 = .bool false := e155; subst e155; intro v156 h156 e156; replace e156 : v156 = .pointer (some ⟨T, 0, none⟩) := e156; subst e156; intro v157 h157 e157; replace e157 : v157 = .agg #[.int .i64 (zd : Int), .int .i64 (zf : Int), .int .i64 (zt : Int), .slice zka zkn zkc] := e157; subst e157; refine exec_call (wanted_yes (b := false) (t := 155) rfl rfl h155) (by go_simp; exact ⟨rfl, rfl⟩) ?_; refine (HCZ.out wR hR).mono ?_; rintro e7 w8 ⟨rfl, kp8⟩; exact ⟨_, rfl, rfl, kp8⟩
                case o14 => intro aR wR hR; replace hR := hR.undrew; intro v155 h155 e155; replace e155 : v155 = .bool false := e155; subst e155; intro v158 h158 e158; replace e158 : v158 = .int .i64 cz := e158; subst e158; exact exec_val (c := .bool false) (wanted_yes (b := false) (t := 155) rfl rfl h155) (by go_simp) rfl
                case o15 => intro aR wR hR; replace hR := hR.undrew; intro v155 h155 e155; replace e155 : v155 = .bool false := e155; subst e155; intro v159 h159 e159; replace e159 : v159 = .bool false := e159; subst e159; exact exec_val (c := .bool false) (wanted_none rfl) (by go_simp) rfl
                case o16 => intro aR wR hR; replace hR := hR.undrew; intro v160 h160 e160; replace e160 : v160 = .bool false := e160; subst e160; exact exec_val (c := .bool false) (wanted_none rfl) (by go_simp) rfl
                case o17 => intro aR wR hR; replace hR := hR.undrew; intro v161 h161 e161; replace e161 : v161 = .bool false := e161; subst e161; intro (h18 : aR.tmps[18]? = some (.pointer (some ⟨bk, 0, none⟩))); exact exec_val (c := .pointer (some ⟨bk, 0, none⟩)) (wanted_yes (b := false) (t := 161) rfl rfl h161) (by go_simp) rfl
                case o18 => intro aR wR hR; replace hR := hR.undrew; intro v161 h161 e161; replace e161 : v161 = .bool false := e161; subst e161; intro v162 h162 e162; replace e162 : v162 = .pointer (some ⟨bk, 0, none⟩) := e162; subst e162; (have h1 : wR.cell? ⟨bk, 0, none⟩ = some (.int .i64 (-1)) := (by rw [cell_of_row wR bk 0 _ _ _ (hR.get HRKZ.out (by simp))]; rfl)); exact exec_val (c := .int .i64 (-1)) (wanted_yes (b := false) (t := 161) rfl rfl h161) (by go_simp) rfl
                case o19 => intro aR wR hR; replace hR := hR.undrew; intro v161 h161 e161; replace e161 : v161 = .bool false := e161; subst e161; intro v163 h163 e163; replace e163 : v163 = .int .i64 (-1) := e163; subst e163; exact exec_val (c := .bool true) (wanted_yes (b := false) (t := 161) rfl rfl h161) (by go_simp) rfl
                case o20 => intro aR wR hR; replace hR := hR.undrew; intro v161 h161 e161; replace e161 : v161 = .bool false := e161; subst e161; intro v164 h164 e164; replace e164 : v164 = .bool true := e164; subst e164; exact exec_val (c := .bool true) (wanted_yes (b := false) (t := 161) rfl rfl h161) (by go_simp) rfl
                case o21 => intro aR wR hR; replace hR := hR.undrew; intro v165 h165 e165; replace e165 : v165 = .bool true := e165; subst e165; intro (h9 : aR.tmps[9]? = some (.pointer (some ⟨T, 0, none⟩))); exact exec_val (c := .pointer (some ⟨T, 0, none⟩)) (wanted_yes (b := true) (t := 165) rfl rfl h165) (by go_simp) rfl
                case o22 => intro aR wR hR; replace hR := hR.undrew; intro v165 h165 e165; replace e165 : v165 = .bool true := e165; subst e165; intro (h19 : aR.tmps[19]? = some (.pointer (some ⟨bz, 0, none⟩))); exact exec_val (c := .agg #[.int .i64 (zd : Int), .int .i64 (zf : Int), .int .i64 (zt : Int), .slice zka zkn zkc]) (wanted_yes (b := true) (t := 165) rfl rfl h165) (exec_ld rfl (b := bz) (o := 0) (by go_simp) (NRow.rg (hR.get HRZ.out (by simp))) Try.underlying40 rfl (by kernel_rfl)) rfl
                case o23 => intro aR wR hR; replace hR := hR.undrew; intro v165 h165 e165; replace e165 : v165 = .bool true := e165; subst e165; intro v166 h166 e166; replace e166 : v166 = .pointer (some ⟨T, 0, none⟩) := e166; subst e166; intro v167 h167 e167; replace e167 : v167 = .agg #[.int .i64 (zd : Int), .int .i64 (zf : Int), .int .i64 (zt : Int), .slice zka zkn zkc] := e167; subst e167; refine exec_call (wanted_yes (b := true) (t := 165) rfl rfl h165) (by go_simp; exact ⟨rfl, rfl⟩) ?_; refine (HCZ.out wR hR).mono ?_; rintro e7 w8 ⟨rfl, kp8⟩; exact ⟨_, rfl, rfl, kp8⟩
                case o24 => intro aR wR hR; replace hR := hR.undrew; intro v165 h165 e165; replace e165 : v165 = .bool true := e165; subst e165; intro (h9 : aR.tmps[9]? = some (.pointer (some ⟨T, 0, none⟩))); exact exec_val (c := .pointer (some ⟨T, 0, none⟩)) (wanted_yes (b := true) (t := 165) rfl rfl h165) (by go_simp) rfl
                case o25 => intro aR wR hR; replace hR := hR.undrew; intro v165 h165 e165; replace e165 : v165 = .bool true := e165; subst e165; intro (h13 : aR.tmps[13]? = some (.pointer (some ⟨bn, 0, none⟩))); exact exec_val (c := .agg #[.int .i64 (yd : Int), .int .i64 (yf : Int), .int .i64 (yt : Int), .slice (some ⟨b1, off1, none⟩) ykn ykc]) (wanted_yes (b := true) (t := 165) rfl rfl h165) (exec_ld rfl (b := bn) (o := 0) (by go_simp) (NRow.rg (hR.get HRN22.out (by simp))) Try.underlying40 rfl (by kernel_rfl)) rfl
                case o26 => intro aR wR hR; replace hR := hR.undrew; intro v165 h165 e165; replace e165 : v165 = .bool true := e165; subst e165; intro v169 h169 e169; replace e169 : v169 = .pointer (some ⟨T, 0, none⟩) := e169; subst e169; intro v170 h170 e170; replace e170 : v170 = .agg #[.int .i64 (yd : Int), .int .i64 (yf : Int), .int .i64 (yt : Int), .slice (some ⟨b1, off1, none⟩) ykn ykc] := e170; subst e170; refine exec_call (wanted_yes (b := true) (t := 165) rfl rfl h165) (by go_simp; exact ⟨rfl, rfl⟩) ?_; refine (HCY.out wR hR).mono ?_; rintro e7 w8 ⟨rfl, kp8⟩; exact ⟨_, rfl, rfl, kp8⟩
                case o27 => intro aR wR hR; replace hR := hR.undrew; intro v165 h165 e165; replace e165 : v165 = .bool true := e165; subst e165; intro v168 h168 e168; replace e168 : v168 = .int .i64 cz := e168; subst e168; intro v171 h171 e171; replace e171 : v171 = .int .i64 cz := e171; subst e171; exact exec_val (c := .bool false) (wanted_yes (b := true) (t := 165) rfl rfl h165) (by go_simp) rfl
                case o28 => intro aR wR hR; replace hR := hR.undrew; intro v161 h161 e161; replace e161 : v161 = .bool false := e161; subst e161; intro v165 h165 e165; replace e165 : v165 = .bool true := e165; subst e165; intro v172 h172 e172; replace e172 : v172 = .bool false := e172; subst e172; exact exec_val (c := .bool false) (wanted_yes (b := false) (t := 161) rfl rfl h161) (by go_simp) rfl
                case o29 => intro aR wR hR; replace hR := hR.undrew; intro v161 h161 e161; replace e161 : v161 = .bool false := e161; subst e161; intro v173 h173 e173; replace e173 : v173 = .bool false := e173; subst e173; exact exec_val (c := .bool false) (wanted_none rfl) (by go_simp) rfl
              · intro vs wR hR hV
                obtain ⟨e0, e1, e2, e3, e4, e5, e6, e7, e8, e9, e10, e11, e12, e13, e14, e15, e16, e17, e18, e19, e20, e21, e22, e23, e24, e25, e26, e27, e28, e29, -⟩ := hV
                replace e0 : vs 0 = .int .i64 0 := e0
                replace e1 : vs 1 = .bool false := e1
                replace e2 : vs 2 = .bool false := e2
                replace e3 : vs 3 = .pointer (some ⟨bz, 0, none⟩) := e3
                replace e4 : vs 4 = .int .i64 (zd : Int) := e4
                replace e5 : vs 5 = .pointer (some ⟨bn, 0, none⟩) := e5
                replace e6 : vs 6 = .int .i64 (yd : Int) := e6
                replace e7 : vs 7 = .int .i64 (zd : Int) := e7
                replace e8 : vs 8 = .bool false := e8
                replace e9 : vs 9 = .bool false := e9
                replace e10 : vs 10 = .bool false := e10
                replace e11 : vs 11 = .pointer (some ⟨T, 0, none⟩) := e11
                replace e12 : vs 12 = .agg #[.int .i64 (zd : Int), .int .i64 (zf : Int), .int .i64 (zt : Int), .slice zka zkn zkc] := e12
                replace e13 : vs 13 = .int .i64 cz := e13
                replace e14 : vs 14 = .bool false := e14
                replace e15 : vs 15 = .bool false := e15
                replace e16 : vs 16 = .bool false := e16
                replace e17 : vs 17 = .pointer (some ⟨bk, 0, none⟩) := e17
                replace e18 : vs 18 = .int .i64 (-1) := e18
                replace e19 : vs 19 = .bool true := e19
                replace e20 : vs 20 = .bool true := e20
                replace e21 : vs 21 = .pointer (some ⟨T, 0, none⟩) := e21
                replace e22 : vs 22 = .agg #[.int .i64 (zd : Int), .int .i64 (zf : Int), .int .i64 (zt : Int), .slice zka zkn zkc] := e22
                replace e23 : vs 23 = .int .i64 cz := e23
                replace e24 : vs 24 = .pointer (some ⟨T, 0, none⟩) := e24
                replace e25 : vs 25 = .agg #[.int .i64 (yd : Int), .int .i64 (yf : Int), .int .i64 (yt : Int), .slice (some ⟨b1, off1, none⟩) ykn ykc] := e25
                replace e26 : vs 26 = .int .i64 cz := e26
                replace e27 : vs 27 = .bool false := e27
                replace e28 : vs 28 = .bool false := e28
                replace e29 : vs 29 = .bool false := e29
                simp only [putAll, e0, e1, e2, e3, e4, e5, e6, e7, e8, e9, e10, e11, e12, e13, e14, e15, e16, e17, e18, e19, e20, e21, e22, e23, e24, e25, e26, e27, e28, e29, Nat.reduceAdd, Nat.zero_add]
                clear e0 e1 e2 e3 e4 e5 e6 e7 e8 e9 e10 e11 e12 e13 e14 e15 e16 e17 e18 e19 e20 e21 e22 e23 e24 e25 e26 e27 e28 e29
                try simp only [List.setIfInBounds_toArray, List.set_cons_succ, List.set_cons_zero]
                go_wp2_with fail
                go_meet
                exact ⟨rfl, Lib.hid hR⟩
            · have hb : (xi == -1) = false := by simpa using hst
              refine wp_region_K (by kernel_rfl) [.val (.int .i64 0), .val (.bool false), .val (.bool false), .val (.pointer (some ⟨bz, 0, none⟩)), .val (.int .i64 (zd : Int)), .val (.pointer (some ⟨bn, 0, none⟩)), .val (.int .i64 (yd : Int)), .val (.int .i64 (zd : Int)), .val (.bool false), .val (.bool false), .val (.bool false), .val (.pointer (some ⟨T, 0, none⟩)), .val (.agg #[.int .i64 (zd : Int), .int .i64 (zf : Int), .int .i64 (zt : Int), .slice zka zkn zkc]), .val (.int .i64 cz), .val (.bool false), .val (.bool false), .val (.bool false), .val (.pointer (some ⟨bk, 0, none⟩)), .val (.int .i64 xi), .val (.bool false), .val (.bool false), .val (undef), .val (undef), .val (undef), .val (undef), .val (undef), .val (undef), .val (undef), .val ((.bool false)), .val ((.bool false))] [[(20, none)], [(145, some 0)], [(146, some 1)], [(147, some 2), (19, none)], [(147, some 2), (148, some 3)], [(147, some 2), (13, none)], [(147, some 2), (150, some 5)], [(147, some 2), (151, some 6)], [(147, some 2), (149, some 4), (152, some 7)], [(147, some 2), (153, some 8)], [(154, some 9)], [(155, some 10), (9, none)], [(155, some 10), (19, none)], [(155, some 10), (156, some 11), (157, some 12)], [(155, some 10), (158, some 13)], [(155, some 10), (159, some 14)], [(160, some 15)], [(161, some 16), (18, none)], [(161, some 16), (162, some 17)], [(161, some 16), (163, some 18)], [(161, some 16), (164, some 19)], [(165, some 20)], [(165, some 20)], [(165, some 20)], [(165, some 20)], [(165, some 20)], [(165, some 20)], [(165, some 20)], [(161, some 16), (165, some 20), (172, some 27)], [(161, some 16), (173, some 28)]] rfl (by kernel_rfl) ?_ ?_
              · refine ⟨?o0, ?o1, ?o2, ?o3, ?o4, ?o5, ?o6, ?o7, ?o8, ?o9, ?o10, ?o11, ?o12, ?o13, ?o14, ?o15, ?o16, ?o17, ?o18, ?o19, ?o20, ?o21, ?o22, ?o23, ?o24, ?o25, ?o26, ?o27, ?o28, ?o29, trivial⟩
                case o0 => intro aR wR hR; replace hR := hR.undrew; intro (h20 : aR.tmps[20]? = some (.int .i64 0)); exact exec_val (c := .int .i64 0) (wanted_none rfl) (by go_simp) rfl
                case o1 => intro aR wR hR; replace hR := hR.undrew; intro v145 h145 e145; replace e145 : v145 = .int .i64 0 := e145; subst e145; exact exec_val (c := .bool false) (wanted_none rfl) (by go_simp) rfl
                case o2 => intro aR wR hR; replace hR := hR.undrew; intro v146 h146 e146; replace e146 : v146 = .bool false := e146; subst e146; exact exec_val (c := .bool false) (wanted_none rfl) (by go_simp) rfl
                case o3 => intro aR wR hR; replace hR := hR.undrew; intro v147 h147 e147; replace e147 : v147 = .bool false := e147; subst e147; intro (h19 : aR.tmps[19]? = some (.pointer (some ⟨bz, 0, none⟩))); exact exec_val (c := .pointer (some ⟨bz, 0, none⟩)) (wanted_yes (b := false) (t := 147) rfl rfl h147) (by go_simp) rfl
                case o4 => intro aR wR hR; replace hR := hR.undrew; intro v147 h147 e147; replace e147 : v147 = .bool false := e147; subst e147; intro v148 h148 e148; replace e148 : v148 = .pointer (some ⟨bz, 0, none⟩) := e148; subst e148; (have h1 := (NRow.c0 (hR.get HRZ.out (by simp)))); exact exec_val (c := .int .i64 (zd : Int)) (wanted_yes (b := false) (t := 147) rfl rfl h147) (by go_simp) rfl
                case o5 => intro aR wR hR; replace hR := hR.undrew; intro v147 h147 e147; replace e147 : v147 = .bool false := e147; subst e147; intro (h13 : aR.tmps[13]? = some (.pointer (some ⟨bn, 0, none⟩))); exact exec_val (c := .pointer (some ⟨bn, 0, none⟩)) (wanted_yes (b := false) (t := 147) rfl rfl h147) (by go_simp) rfl
                case o6 => intro aR wR hR; replace hR := hR.undrew; intro v147 h147 e147; replace e147 : v147 = .bool false := e147; subst e147; intro v150 h150 e150; replace e150 : v150 = .pointer (some ⟨bn, 0, none⟩) := e150; subst e150; (have h1 := (NRow.c0 (hR.get HRN22.out (by simp)))); exact exec_val (c := .int .i64 (yd : Int)) (wanted_yes (b := false) (t := 147) rfl rfl h147) (by go_simp) rfl
                case o7 => intro aR wR hR; replace hR := hR.undrew; intro v147 h147 e147; replace e147 : v147 = .bool false := e147; subst e147; intro v151 h151 e151; replace e151 : v151 = .int .i64 (yd : Int) := e151; subst e151; (have hwd := HWD.out); exact exec_val (c := .int .i64 (zd : Int)) (wanted_yes (b := false) (t := 147) rfl rfl h147) (by go_simp) rfl
                case o8 => intro aR wR hR; replace hR := hR.undrew; intro v147 h147 e147; replace e147 : v147 = .bool false := e147; subst e147; intro v149 h149 e149; replace e149 : v149 = .int .i64 (zd : Int) := e149; subst e149; intro v152 h152 e152; replace e152 : v152 = .int .i64 (zd : Int) := e152; subst e152; exact exec_val (c := .bool false) (wanted_yes (b := false) (t := 147) rfl rfl h147) (by go_simp) rfl
                case o9 => intro aR wR hR; replace hR := hR.undrew; intro v147 h147 e147; replace e147 : v147 = .bool false := e147; subst e147; intro v153 h153 e153; replace e153 : v153 = .bool false := e153; subst e153; exact exec_val (c := .bool false) (wanted_none rfl) (by go_simp) rfl
                case o10 => intro aR wR hR; replace hR := hR.undrew; intro v154 h154 e154; replace e154 : v154 = .bool false := e154; subst e154; exact exec_val (c := .bool false) (wanted_none rfl) (by go_simp) rfl
                case o11 => intro aR wR hR; replace hR := hR.undrew; intro v155 h155 e155; replace e155 : v155 = .bool false := e155; subst e155; intro (h9 : aR.tmps[9]? = some (.pointer (some ⟨T, 0, none⟩))); exact exec_val (c := .pointer (some ⟨T, 0, none⟩)) (wanted_yes (b := false) (t := 155) rfl rfl h155) (by go_simp) rfl
                case o12 => intro aR wR hR; replace hR := hR.undrew; intro v155 h155 e155; replace e155 : v155 = .bool false := e155; subst e155; intro (h19 : aR.tmps[19]? = some (.pointer (some ⟨bz, 0, none⟩))); exact exec_val (c := .agg #[.int .i64 (zd : Int), .int .i64 (zf : Int), .int .i64 (zt : Int), .slice zka zkn zkc]) (wanted_yes (b := false) (t := 155) rfl rfl h155) (exec_ld rfl (b := bz) (o := 0) (by go_simp) (NRow.rg (hR.get HRZ.out (by simp))) Try.underlying40 rfl (by kernel_rfl)) rfl
                case o13 => intro aR wR hR; replace hR := hR.undrew; intro v155 h155 e155; replace e155 : v155 = .bool false := e155; subst e155; intro v156 h156 e156; replace e156 : v156 = .pointer (some ⟨T, 0, none⟩) := e156; subst e156; intro v157 h157 e157; replace e157 : v157 = .agg #[.int .i64 (zd : Int), .int .i64 (zf : Int), .int .i64 (zt : Int), .slice zka zkn zkc] := e157; subst e157; refine exec_call (wanted_yes (b := false) (t := 155) rfl rfl h155) (by go_simp; exact ⟨rfl, rfl⟩) ?_; refine (HCZ.out wR hR).mono ?_; rintro e7 w8 ⟨rfl, kp8⟩; exact ⟨_, rfl, rfl, kp8⟩
                case o14 => intro aR wR hR; replace hR := hR.undrew; intro v155 h155 e155; replace e155 : v155 = .bool false := e155; subst e155; intro v158 h158 e158; replace e158 : v158 = .int .i64 cz := e158; subst e158; exact exec_val (c := .bool false) (wanted_yes (b := false) (t := 155) rfl rfl h155) (by go_simp) rfl
                case o15 => intro aR wR hR; replace hR := hR.undrew; intro v155 h155 e155; replace e155 : v155 = .bool false := e155; subst e155; intro v159 h159 e159; replace e159 : v159 = .bool false := e159; subst e159; exact exec_val (c := .bool false) (wanted_none rfl) (by go_simp) rfl
                case o16 => intro aR wR hR; replace hR := hR.undrew; intro v160 h160 e160; replace e160 : v160 = .bool false := e160; subst e160; exact exec_val (c := .bool false) (wanted_none rfl) (by go_simp) rfl
                case o17 => intro aR wR hR; replace hR := hR.undrew; intro v161 h161 e161; replace e161 : v161 = .bool false := e161; subst e161; intro (h18 : aR.tmps[18]? = some (.pointer (some ⟨bk, 0, none⟩))); exact exec_val (c := .pointer (some ⟨bk, 0, none⟩)) (wanted_yes (b := false) (t := 161) rfl rfl h161) (by go_simp) rfl
                case o18 => intro aR wR hR; replace hR := hR.undrew; intro v161 h161 e161; replace e161 : v161 = .bool false := e161; subst e161; intro v162 h162 e162; replace e162 : v162 = .pointer (some ⟨bk, 0, none⟩) := e162; subst e162; (have h1 : wR.cell? ⟨bk, 0, none⟩ = some (.int .i64 xi) := (by rw [cell_of_row wR bk 0 _ _ _ (hR.get HRKZ.out (by simp))]; rfl)); exact exec_val (c := .int .i64 xi) (wanted_yes (b := false) (t := 161) rfl rfl h161) (by go_simp) rfl
                case o19 => intro aR wR hR; replace hR := hR.undrew; intro v161 h161 e161; replace e161 : v161 = .bool false := e161; subst e161; intro v163 h163 e163; replace e163 : v163 = .int .i64 xi := e163; subst e163; exact exec_val (c := .bool false) (wanted_yes (b := false) (t := 161) rfl rfl h161) (by go_simp) rfl
                case o20 => intro aR wR hR; replace hR := hR.undrew; intro v161 h161 e161; replace e161 : v161 = .bool false := e161; subst e161; intro v164 h164 e164; replace e164 : v164 = .bool false := e164; subst e164; exact exec_val (c := .bool false) (wanted_yes (b := false) (t := 161) rfl rfl h161) (by go_simp) rfl
                case o21 => intro aR wR hR; replace hR := hR.undrew; intro v165 h165 e165; replace e165 : v165 = .bool false := e165; subst e165; exact exec_pass (wanted_not (b := true) (t := 165) rfl rfl h165) rfl
                case o22 => intro aR wR hR; replace hR := hR.undrew; intro v165 h165 e165; replace e165 : v165 = .bool false := e165; subst e165; exact exec_pass (wanted_not (b := true) (t := 165) rfl rfl h165) rfl
                case o23 => intro aR wR hR; replace hR := hR.undrew; intro v165 h165 e165; replace e165 : v165 = .bool false := e165; subst e165; exact exec_pass (wanted_not (b := true) (t := 165) rfl rfl h165) rfl
                case o24 => intro aR wR hR; replace hR := hR.undrew; intro v165 h165 e165; replace e165 : v165 = .bool false := e165; subst e165; exact exec_pass (wanted_not (b := true) (t := 165) rfl rfl h165) rfl
                case o25 => intro aR wR hR; replace hR := hR.undrew; intro v165 h165 e165; replace e165 : v165 = .bool false := e165; subst e165; exact exec_pass (wanted_not (b := true) (t := 165) rfl rfl h165) rfl
                case o26 => intro aR wR hR; replace hR := hR.undrew; intro v165 h165 e165; replace e165 : v165 = .bool false := e165; subst e165; exact exec_pass (wanted_not (b := true) (t := 165) rfl rfl h165) rfl
                case o27 => intro aR wR hR; replace hR := hR.undrew; intro v165 h165 e165; replace e165 : v165 = .bool false := e165; subst e165; exact exec_pass (wanted_not (b := true) (t := 165) rfl rfl h165) rfl
                case o28 => intro aR wR hR; replace hR := hR.undrew; intro v161 h161 e161; replace e161 : v161 = .bool false := e161; subst e161; intro v165 h165 e165; replace e165 : v165 = .bool false := e165; subst e165; intro v172 h172 e172; replace e172 : v172 = undef := e172; subst e172; exact exec_val (c := (.bool false)) (wanted_yes (b := false) (t := 161) rfl rfl h161) (by go_simp) rfl
                case o29 => intro aR wR hR; replace hR := hR.undrew; intro v161 h161 e161; replace e161 : v161 = .bool false := e161; subst e161; intro v173 h173 e173; replace e173 : v173 = (.bool false) := e173; subst e173; exact exec_val (c := (.bool false)) (wanted_none rfl) (by go_simp) rfl
              · intro vs wR hR hV
                obtain ⟨e0, e1, e2, e3, e4, e5, e6, e7, e8, e9, e10, e11, e12, e13, e14, e15, e16, e17, e18, e19, e20, e21, e22, e23, e24, e25, e26, e27, e28, e29, -⟩ := hV
                replace e0 : vs 0 = .int .i64 0 := e0
                replace e1 : vs 1 = .bool false := e1
                replace e2 : vs 2 = .bool false := e2
                replace e3 : vs 3 = .pointer (some ⟨bz, 0, none⟩) := e3
                replace e4 : vs 4 = .int .i64 (zd : Int) := e4
                replace e5 : vs 5 = .pointer (some ⟨bn, 0, none⟩) := e5
                replace e6 : vs 6 = .int .i64 (yd : Int) := e6
                replace e7 : vs 7 = .int .i64 (zd : Int) := e7
                replace e8 : vs 8 = .bool false := e8
                replace e9 : vs 9 = .bool false := e9
                replace e10 : vs 10 = .bool false := e10
                replace e11 : vs 11 = .pointer (some ⟨T, 0, none⟩) := e11
                replace e12 : vs 12 = .agg #[.int .i64 (zd : Int), .int .i64 (zf : Int), .int .i64 (zt : Int), .slice zka zkn zkc] := e12
                replace e13 : vs 13 = .int .i64 cz := e13
                replace e14 : vs 14 = .bool false := e14
                replace e15 : vs 15 = .bool false := e15
                replace e16 : vs 16 = .bool false := e16
                replace e17 : vs 17 = .pointer (some ⟨bk, 0, none⟩) := e17
                replace e18 : vs 18 = .int .i64 xi := e18
                replace e19 : vs 19 = .bool false := e19
                replace e20 : vs 20 = .bool false := e20
                replace e21 : vs 21 = undef := e21
                replace e22 : vs 22 = undef := e22
                replace e23 : vs 23 = undef := e23
                replace e24 : vs 24 = undef := e24
                replace e25 : vs 25 = undef := e25
                replace e26 : vs 26 = undef := e26
                replace e27 : vs 27 = undef := e27
                replace e28 : vs 28 = (.bool false) := e28
                replace e29 : vs 29 = (.bool false) := e29
                simp only [putAll, e0, e1, e2, e3, e4, e5, e6, e7, e8, e9, e10, e11, e12, e13, e14, e15, e16, e17, e18, e19, e20, e21, e22, e23, e24, e25, e26, e27, e28, e29, Nat.reduceAdd, Nat.zero_add]
                clear e0 e1 e2 e3 e4 e5 e6 e7 e8 e9 e10 e11 e12 e13 e14 e15 e16 e17 e18 e19 e20 e21 e22 e23 e24 e25 e26 e27 e28 e29
                try simp only [List.setIfInBounds_toArray, List.set_cons_succ, List.set_cons_zero]
                go_wp2_with fail
                go_meet
                exact ⟨rfl, Lib.hid hR⟩
          obtain ⟨rfl, HK25⟩ := hcut
          obtain ⟨w25, rfl⟩ : ∃ w25 : World, w25 = wc := ⟨_, rfl⟩
          have HRZ25 : Hid (NRow w25 bz zd zf zt zka zkn zkc) := Lib.hid (HK25.out.get HRZ.out (by simp))
          have HRN25 : Hid (NRow w25 bn yd yf yt (some ⟨b1, off1, none⟩) ykn ykc) := Lib.hid (HK25.out.get HRN22.out (by simp))
          have HRK25 : Hid (w25.heap[bk]? = some (.cells #[.int .i64 xi, .int .i64 (xn : Int)] 44)) := Lib.hid (HK25.out.get HRKZ.out (by simp))
          have q0 : w25.cell? ⟨bk, 0, none⟩ = some (.int .i64 xi) := by rw [cell_of_row w25 bk 0 _ _ _ HRK25.out]; rfl
          obtain ⟨at2, hat2⟩ : ∃ at2, at2 = atN N (ykids.take (s + 1)) yf := ⟨_, rfl⟩
          have HAT2 : Hid (at2 = if xi = -1 then at1 else zt) := Lib.hid (by
            rw [hat2, take_snoc HGK.out, atN_snoc, ← HAT1.out]
            have h1 := HKI.out.at'
            have e : N.getD xn default = pn ⟨zd, zf, zt, zka, zkn, zkc, zkids⟩ := by rw [List.getD_eq_getElem?_getD, h1]; rfl
            dsimp only
            rw [e]; rfl)
          have HZF : Hid (xi ≠ -1 → zf = at1) := Lib.hid (fun h => by rw [HAT1.out]; exact HKI.out.next h)
          have HAT2E := Lib.hid hat2
          clear hat2
          go_upto_if 177 with (fail)
          go_cut [16] (fun v16 wx => v16 = .int .i64 (at2 : Int) ∧ wx = w25)
          case first => as_aux_lemma =>
            by_cases hst : xi = -1
            · have hb : (xi != -1) = false := by simp [hst]
              have h2 := HAT2.out
              rw [if_pos hst] at h2
              clear hst
              go_wp2_with fail
              go_meet
              exact ⟨by rw [h2], rfl⟩
            · have hb : (xi != -1) = true := by simp [hst]
              have h2 := HAT2.out
              rw [if_neg hst] at h2
              obtain rfl := HZF.out hst
              have hb2 : ((zf : Int) != (zf : Int)) = false := by simp
              have n1 := HRZ25.out.c1
              have n2 := HRZ25.out.c2
              clear hst
              go_wp2_with fail
              go_meet
              exact ⟨by rw [h2], rfl⟩
          obtain ⟨rfl, rfl⟩ := hcut
          obtain ⟨w26, rfl⟩ : ∃ w26 : World, w26 = wc := ⟨_, rfl⟩
          have HIDJ : Hid (∀ j, zf ≤ j → j < zt → idAt R j yd = xi) := Lib.hid HKI.out.ids
          have HK3Z : Hid (Kp [] w3 w26) := Lib.hid ((HK3M.out.tr K22.out).tr HK25.out)
          have z1 := HRZ25.out.c1
          clear q0
          go_wp2_with fail
          go_loopw [21] (fun vj wr => ∃ j : Nat, zf ≤ j ∧ j ≤ zt ∧ vj = .int .i64 j ∧ Hid (Kp [] w26 wr)) (fun vj _ => zt - (intOf vj).toNat)
          case atStart => exact ⟨zf, Nat.le_refl _, hzft, rfl, Lib.hid (Kp.refl _ _)⟩
          case round => as_aux_lemma =>
            obtain ⟨j, hj1, hj2, rfl, HKJ⟩ := hrel
            obtain ⟨wj, rfl⟩ : ∃ wj : World, wj = wr := ⟨_, rfl⟩
            have z2 : wj.cell? ⟨bz, 2, none⟩ = some (.int .i64 (zt : Int)) := NRow.c2 (HKJ.out.get HRZ25.out (by simp))
            clear z1
            by_cases hltj : j < zt
            · obtain ⟨r, hr⟩ : ∃ r, R[j]? = some r := ⟨_, List.getElem?_eq_getElem (by rw [HRL.out]; omega)⟩
              have hrid : r.ids.getD yd 0 = xi := by rw [← idAt_get hr]; exact HIDJ.out j hj1 hltj
              have hrlen : r.ids.length = sn := (HOKZ.out.1 r (seg_mem hj1 hltj hr)).1
              have HRC := Lib.hid (stRecord_at wj (HTR.out.keep0 (HK3Z.out.tr HKJ.out)) hk1 hk8 (by omega) j (by rw [← HREQ.out]; exact hr))
              clear hr
              go_wp2_with fail
              refine HRC.out.mono ?_
              rintro e w31 ⟨x, rfl, hx, hox, kpw31⟩
              unfold raV
              go_upto_region 34 with (refine wpList_store_row rfl 34 _ _ rfl w31.heap.size #[.slice x.ia x.ids.length x.ic, .int .i64 x.cnt, .slice x.sa x.ms.length x.sc, .slice x.la x.ms.length x.lc, .slice x.ga x.ms.length x.gc] rfl rfl 34 _ (heap_alloc_at rfl) (by kernel_rfl) rfl (by simp [Value.oneCell']) ?_)
              obtain ⟨bx, hbx⟩ : ∃ q, q = w31.heap.size := ⟨_, rfl⟩
              generalize hz : (w31.alloc (Obj.cells _ _)).setRow _ _ = w32
              rw [← hbx] at hz ⊢
              have hrp : w32.heap[bx]? = some (.cells #[.slice x.ia x.ids.length x.ic, .int .i64 x.cnt, .slice x.sa x.ms.length x.sc, .slice x.la x.ms.length x.lc, .slice x.ga x.ms.length x.gc] 34) := by rw [← hz]; exact setRow_heap _ bx _ _ _ _ (heap_alloc_at hbx)
              have kp : Kp [] w31 w32 := by rw [← hz]; exact ((Kp.refl [] w31).alloc _).setRowF _ _ (.inr (by omega))
              have e1 : x.ids = r.ids := by rw [← hx]; rfl
              have hxl : x.ids.length = sn := by rw [e1, hrlen]
              have hirc := (hox.1.keep0 kp).rd
              have hcap := hirc.1
              rw [hxl] at hcap
              have hcap2 := hirc.2.1
              have p0 : w32.cell? ⟨bx, 0, none⟩ = some (.slice x.ia sn x.ic) := by rw [← hxl, cell_of_row w32 bx 0 _ _ _ hrp]; rfl
              obtain ⟨bi, oi, hia, ci⟩ := hirc.2.2 yd (by rw [hxl]; exact hydk)
              have e3 : nth x.ids yd = xi := by rw [← hrid, e1]; rfl
              rw [e3] at ci
              rw [hia] at p0
              have kw : Kp [] wj w32 := kpw31.tr kp
              have n0 : w32.cell? ⟨bn, 0, none⟩ = some (.int .i64 (yd : Int)) := NRow.c0 (kw.get (HKJ.out.get HRN25.out (by simp)) (by simp))
              have q0 : w32.cell? ⟨bk, 0, none⟩ = some (.int .i64 xi) := by rw [cell_of_row w32 bk 0 _ _ _ (kw.get (HKJ.out.get HRK25.out (by simp)) (by simp))]; rfl
              have HKJ2 := Lib.hid (HKJ.out.tr kw)
              obtain ⟨ic, hic⟩ : ∃ ic, ic = x.ic := ⟨_, rfl⟩
              rw [← hic] at hcap hcap2 p0
              have hbn : (xi != xi) = false := by simp
              clear hz hrp kp kpw31 hx hox e1 hxl hirc e3 hic kw hia hbx hrid hrlen HRC z2
              go_wp2_with go_quiet (fail)
              go_roundw
              case rel => exact ⟨j + 1, by omega, hltj, by go_num, Lib.hid (HKJ2.out.tr (kdNs _ _))⟩
              case measure => simp [intOf]; omega
            · obtain rfl : j = zt := by omega
              have HO26 : Hid (Own wj w3.heap.size 3 .i64 (some ⟨P, 0, none⟩) M (cntL M (flatK N 0 i ++ (ykids.take (s + 1)).map (·.2)))) := Lib.hid (HO22.out.keep0 ((K22.out.tr HK25.out).tr HKJ.out))
              have HKS2 : Hid (Kp [P] w14 wj) := Lib.hid (HK22.out.trans ((K22.out.tr HK25.out).tr HKJ.out) (U := [P]) (fun _ h => .inl h) (by simp))
              go_wp2_with fail
              go_roundw
              case rel => exact ⟨s + 1, hlts, by go_num, by rw [HAT2E.out], HO26, HKS2⟩
              case measure => simp [intOf]; omega
        · obtain rfl : s = ykn := by omega
          have HOF : Hid (Own ws w3.heap.size 3 .i64 (some ⟨P, 0, none⟩) M (cntL M (flatK N 0 (i + 1)))) := Lib.hid (by
            have h1 := HOS.out
            have e2 := flatK_split N (Nat.zero_le i) (Nat.le_succ i) (show i + 1 ≤ N.length by rw [HNL.out]; omega)
            have e3 : flatK N i (i + 1) = ykids.map (·.2) := flatK_one HY0.out
            rw [List.take_of_length_le (by rw [← HKN.out]; exact Nat.le_refl _), ← e3, ← e2] at h1
            exact h1)
          have HALL : Hid (ykids ≠ [] → at1 = yt) := Lib.hid (fun h => by
            rw [HAT1.out, List.take_of_length_le (by rw [← HKN.out]; exact Nat.le_refl _)]
            exact HNI.out.all h)
          have n2 := HRNS.out.c2
          have n3 := HRNS.out.c3
          clear hk0 n1
          by_cases hz0 : s = 0
          · subst hz0
            go_wp2_with fail
            go_roundw
            case rel => exact ⟨i + 1, hlt, by go_num, HOF, HK3S⟩
            case measure => simp [intOf]; omega
          · obtain rfl : at1 = yt := HALL.out (fun h => hz0 (by rw [HKN.out, h]; rfl))
            have hb : ((at1 : Int) != (at1 : Int)) = false := by simp
            have hpos : (0 : Int) < (s : Int) := by omega
            go_wp2_with fail
            go_roundw
            case rel => exact ⟨i + 1, hlt, by go_num, HOF, HK3S⟩
            case measure => simp [intOf]; omega
    · obtain rfl : i = M := by omega
      have HPC : Hid (∀ j, j < i → wo.cell? ⟨P, j, none⟩ = some (.int .i64 (if 0 < j then 1 else 0))) := Lib.hid (fun j hj => by
        obtain ⟨g, h1, h2, -, -, -⟩ := HO.out.at' (i := j) (by rw [cntL_len]; exact hj)
        cases h1
        rw [h2, cntL_nth _ hj, HCNT.out j]
        by_cases h0 : 0 < j
        · rw [if_pos ⟨h0, hj⟩, if_pos h0]; rfl
        · rw [if_neg (by omega), if_neg h0]; rfl)
      go_wp2_with fail
      go_loopw [225] (fun vj wr => ∃ j : Nat, j ≤ i ∧ vj = .int .i64 j ∧ wr = wo) (fun vj _ => i - (intOf vj).toNat)
      case atStart => exact ⟨0, Nat.zero_le _, rfl, rfl⟩
      case round => as_aux_lemma =>
        obtain ⟨j, hj, rfl, rfl⟩ := hrel
        by_cases hlj : j < i
        · have c0 := HPC.out j hlj
          by_cases h0 : 0 < j
          · rw [if_pos h0] at c0
            have hb : (0 : Int) < (j : Int) := by omega
            have hb2 : ((j : Int) == 0) = false := by simp; omega
            go_wp2_with fail
            go_roundw
            case rel => exact ⟨j + 1, hlj, by go_num, trivial⟩
            case measure => simp [intOf]; omega
          · obtain rfl : j = 0 := by omega
            rw [if_neg h0] at c0
            clear h0
            go_wp2_with fail
            go_roundw
            case rel => exact ⟨1, hlj, by go_num, trivial⟩
            case measure => simp [intOf]; omega
        · obtain rfl : j = i := by omega
          have hpos : (0 : Int) < (j : Int) := by omega
          go_wp2_with fail
          refine (known19_any wr).mono ?_
          rintro e w14 ⟨rfl, kp14⟩
          have HF := Lib.hid ((HK2.out.tr HK.out).tr kp14)
          clear kp14
          go_wp2_with fail
          go_ret
          exact ⟨rfl, HF.out⟩
end Go.Proofs.Ythmaobmgogmaoaa
