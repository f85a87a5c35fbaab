/-
  The document's questions: what is taken below a node.
-/
import Derived.Test.YthmaobmgogmaoaaStcK
namespace Go.Proofs.Ythmaobmgogmaoaa
open Go.RowKit Go.Shelf
set_option linter.unusedSimpArgs false
set_option linter.unusedVariables false
set_option maxRecDepth 100000

def WalkA (T k : Nat) (R : List PR) (N : List PN) (ma : Option Addr) (mc : Nat) (F : List (List Bool)) (ba : Option Addr) (bc : Nat) (BF : List Bool) (w0 : World) (n : Nat) : Prop :=
  (askN k R N F BF n).length ≤ 100000 → ∀ W, Kp [] w0 W → Calls Try.prog 48 #[.pointer (some ⟨T, 0, none⟩), .int .i64 (n : Int), .slice ma k mc, .slice ba k bc] W fun e w' => ∃ la lc, e = .returned (.slice la (askN k R N F BF n).length lc) ∧ Own w' W.heap.size 3 .i64 la lc (nums (askN k R N F BF n)) ∧ Kp [] W w'

set_option maxHeartbeats 6400000 in
theorem r20walk_step {T k mt leaf B : Nat} {X : Nat → Prop} {ra : Option Addr} {rc : Nat} {RL : List Ra} {na : Option Addr} {nc : Nat} {NL : List Nh} (w0 : World) (h : RTree T k mt leaf B X ra rc RL na nc NL w0) (hk : 1 ≤ k) (hk8 : k ≤ 8)
    (ma : Option Addr) (mc : Nat) (MF : List Bh) (hM : k = MF.length) (hm : RdM w0 ma mc MF) (ba : Option Addr) (bc : Nat) (BF : List Bool) (hB : k = BF.length) (hb : RdF w0 ba bc BF)
    (R : List PR) (hR : R = RL.map Ra.pr) (N : List PN) (hN : N = NL.map pn) (n : Nat) (hn : n < NL.length) (hnb : NL.length ≤ 100000000) (hrb : RL.length ≤ 100000)
    (hni : ∀ y, N[n]? = some y → NodeIs leaf k R N n y) (hlast : ∀ y, N[n]? = some y → ∀ (s : Nat) (kid : Int × Nat), y.kids[s]? = some kid → kid.1 = -1 → s + 1 = y.kids.length)
    (ih : ∀ c, n < c → c < NL.length → WalkA T k R N ma mc (lisF MF) ba bc BF w0 c) : WalkA T k R N ma mc (lisF MF) ba bc BF w0 n := by
  intro hfew w hW
  have HT := Lib.hid (h.keep0 hW)
  have HM := Lib.hid (hm.keep0 hW)
  have HB := Lib.hid (hb.keep0 hW)
  have HMN := Lib.hid hM
  have HBN := Lib.hid hB
  have HR := Lib.hid hR
  have HW := Lib.hid hW
  have HIH := Lib.hid ih
  have hmc : k ≤ mc := by rw [hM]; exact hm.1.1
  have hmc2 := hm.1.2.1
  have hbc : k ≤ bc := by rw [hB]; exact hb.1
  have hbc2 := hb.2.1
  obtain ⟨gn, hgn, hcs, -, -⟩ := HT.out.nodes.at' nlies hn
  subst hgn
  obtain ⟨hkn, hko, -⟩ := HT.out.kids _ (List.getElem_mem hn)
  have hNn : N[n]? = some (pn NL[n]) := by rw [hN, List.getElem?_map, List.getElem?_eq_getElem hn]; rfl
  have HNI := Lib.hid (hni _ hNn)
  have HLAST := Lib.hid (hlast _ hNn)
  have HNN := Lib.hid hNn
  obtain ⟨-, -, c2, c3, -, -⟩ := HT.out.cell
  obtain ⟨nn, hnn⟩ : ∃ nn, nn = NL.length := ⟨_, rfl⟩
  obtain ⟨rn, hrn⟩ : ∃ rn, rn = RL.length := ⟨_, rfl⟩
  rw [← hnn] at hn hnb c3
  rw [← hrn] at hrb c2
  have hrc : rn ≤ rc ∧ rc ≤ 9223372036854775807 := ⟨by rw [hrn]; exact (HT.out.recs.rd ralies).1, (HT.out.recs.rd ralies).2.1⟩
  have hncc : nn ≤ nc ∧ nc ≤ 9223372036854775807 := ⟨by rw [hnn]; exact (HT.out.nodes.rd nlies).1, (HT.out.nodes.rd nlies).2.1⟩
  have HNNE := Lib.hid hnn
  have HRN := Lib.hid hrn
  have HNQL : Hid (N.length = nn) := Lib.hid (by rw [hN, List.length_map, hnn])
  have HRL : Hid (R.length = rn) := Lib.hid (by rw [hR, List.length_map, hrn])
  generalize NL[n] = x at hcs hkn hko hNn HNI HLAST HNN
  obtain ⟨yd, yf, yt, ka, kn, kc, kids⟩ := x
  dsimp only at hkn hko
  have hrg : w.rangeAt gn (n * 4) [.int .i64 (yd : Int), .int .i64 (yf : Int), .int .i64 (yt : Int), .slice ka kn kc] := fun s v hv => by
    have hs : s < 4 := (List.getElem?_eq_some_iff.1 hv).1
    rw [(hcs s hs).1, ← hv]; rfl
  have HRG := Lib.hid hrg
  have HKO := Lib.hid hko
  have HKN := Lib.hid hkn
  have hkc : kn ≤ kc ∧ kc ≤ 9223372036854775807 := ⟨by rw [hkn]; exact (hko.rd kdlies).1, (hko.rd kdlies).2.1⟩
  have hyt : yf ≤ yt ∧ yt ≤ rn := ⟨HNI.out.ft, by rw [← HRL.out]; exact HNI.out.tR⟩
  have hknb : kn ≤ 100001 := by have := HNI.out.few; rw [hkn]; simp only [pn] at this; omega
  have HASKL := Lib.hid (fun (hk0 : kids = []) => (ask_leaf (k := k) (R := R) (may := lisF MF) (by' := BF) hNn hk0).1)
  have HASKK := Lib.hid (fun (hk0 : kids ≠ []) => ask_kids (may := lisF MF) (by' := BF) hNn HNI.out hk0)
  obtain ⟨ask, hask⟩ : ∃ ask, ask = askN k R N (lisF MF) BF := ⟨_, rfl⟩
  have HASK := Lib.hid hask
  rw [← hask] at hfew HASKL HASKK ⊢
  have HFEW := Lib.hid hfew
  clear h hm hb hM hB hR hN hni hlast ih hW hcs hkn hko hNn hnn hrn hrg hask hfew
  go_enter Try.func48, Try.ntmps48
  go_upto_region 2 with first
    | (refine wpList_load_mid rfl 40 _ rfl gn (n * 4) rfl [.int .i64 (yd : Int), .int .i64 (yf : Int), .int .i64 (yt : Int), .slice ka kn kc] _ HRG.out Try.underlying40 rfl (by kernel_rfl) ?_)
    | (refine wpList_store_row rfl 40 _ _ rfl w.heap.size #[.int .i64 (yd : Int), .int .i64 (yf : Int), .int .i64 (yt : Int), .slice ka kn kc] rfl rfl 40 _ (heap_alloc_at rfl) (by kernel_rfl) rfl (by simp [Value.oneCell']) ?_)
  obtain ⟨p, hp⟩ : ∃ p, p = w.heap.size := ⟨_, rfl⟩
  rw [← hp]
  generalize hw1 : (w.alloc (Obj.cells #[.int .i64 0, .int .i64 0, .int .i64 0, .slice none 0 0] 40)).setRow p #[.int .i64 (yd : Int), .int .i64 (yf : Int), .int .i64 (yt : Int), .slice ka kn kc] = w1
  have hp1 : w1.heap[p]? = some (.cells #[.int .i64 (yd : Int), .int .i64 (yf : Int), .int .i64 (yt : Int), .slice ka kn kc] 40) := by rw [← hw1]; exact setRow_heap _ p _ _ _ _ (heap_alloc_at hp)
  have k1 : Kp [] w w1 := by rw [← hw1]; exact ((Kp.refl [] w).alloc _).setRowF _ _ (.inr (by omega))
  have HP := Lib.hid hp1
  have K1 := Lib.hid k1
  have HSZ : Hid (w.heap.size ≤ w1.heap.size) := Lib.hid k1.size
  have p0 : w1.cell? ⟨p, 0, none⟩ = some (.int .i64 (yd : Int)) := by rw [cell_of_row w1 p 0 _ _ _ hp1]; rfl
  have p1 : w1.cell? ⟨p, 1, none⟩ = some (.int .i64 (yf : Int)) := by rw [cell_of_row w1 p 1 _ _ _ hp1]; rfl
  have p2 : w1.cell? ⟨p, 2, none⟩ = some (.int .i64 (yt : Int)) := by rw [cell_of_row w1 p 2 _ _ _ hp1]; rfl
  have p3 : w1.cell? ⟨p, 3, none⟩ = some (.slice ka kn kc) := by rw [cell_of_row w1 p 3 _ _ _ hp1]; rfl
  clear hw1 hp1 k1 hp c2 c3
  simp only [Act.put]
  by_cases hk0 : kids = []
  · obtain rfl : kn = 0 := by rw [HKN.out, hk0]; rfl
    have HAL : Hid (ask n = leafL R (lisF MF) yf (yt - yf)) := Lib.hid (HASKL.out hk0)
    clear hk0
    go_wp2_with fail
    go_loopw [10, 11] (fun vl vi wr => ∃ (i ln : Nat) (la : Option Addr) (lc : Nat), yf ≤ i ∧ i ≤ yt ∧ ln ≤ i ∧ vi = .int .i64 i ∧ vl = .slice la ln lc ∧ Hid (ln = (leafL R (lisF MF) yf (i - yf)).length) ∧ Hid (Own wr w1.heap.size 3 .i64 la lc (nums (leafL R (lisF MF) yf (i - yf)))) ∧ Hid (Kp [] w1 wr)) (fun _ vi _ => yt - (intOf vi).toNat)
    case atStart => exact ⟨yf, 0, none, 0, Nat.le_refl _, hyt.1, Nat.zero_le _, rfl, rfl, Lib.hid (by rw [Nat.sub_self]; rfl), Lib.hid (by rw [Nat.sub_self]; exact Own.nil _ _ _ _), Lib.hid (Kp.refl _ _)⟩
    case round =>
      obtain ⟨i, ln, la, lc, hi1, hi2, hln, rfl, rfl, HLN, HO, HK⟩ := hrel
      obtain ⟨wo, rfl⟩ : ∃ wo : World, wo = wr := ⟨_, rfl⟩
      have c2 : wo.cell? ⟨p, 2, none⟩ = some (.int .i64 (yt : Int)) := by rw [cell_of_row wo p 2 _ _ _ (HK.out.get HP.out (by simp))]; rfl
      by_cases hlt : i < yt
      · have hiR : i < RL.length := by rw [← HRN.out]; omega
        have HTW := Lib.hid (HT.out.keep0 (K1.out.tr HK.out))
        obtain ⟨IDS, hIDS⟩ : ∃ IDS, IDS = RL[i].ids := ⟨_, rfl⟩
        have HIL : Hid (IDS.length = k) := Lib.hid (by rw [hIDS]; exact (HTW.out.good _ (List.getElem_mem hiR)).2.1)
        have hra : recAt R i = RL[i].pr := by unfold recAt; rw [HR.out, List.getD_eq_getElem?_getD, List.getElem?_map, List.getElem?_eq_getElem hiR]; rfl
        have HSTEP : Hid (leafL R (lisF MF) yf (i + 1 - yf) = leafL R (lisF MF) yf (i - yf) ++ if okRec (lisF MF) IDS then [i] else []) := Lib.hid (by
          rw [leafL_step hi1, hra, hIDS]; rfl)
        obtain ⟨g, g2, ic, hg, hic, hicb, cr, -⟩ := HTW.out.id (a := i) (d := 0) hiR (by omega)
        subst hg
        have HID : Hid (∀ j, j < k → wo.cell? ⟨g2, j, none⟩ = some (.int .i64 (nth IDS j))) := Lib.hid (fun j hj => by
          obtain ⟨g', g2', ic', hg', -, -, cr', ci'⟩ := HTW.out.id (a := i) (d := j) hiR hj
          cases hg'
          rw [cr] at cr'
          cases cr'
          rw [ci', idAt_ra hiR, hIDS])
        have CR := Lib.hid cr
        obtain ⟨cK, -, cR, -, -, -⟩ := HTW.out.cell
        rw [← HRN.out] at cR
        have CRS := Lib.hid cR
        have hirn : i < rn := by omega
        clear hIDS hra hiR cr
        go_wp2_with fail
        go_loopw [12, 13] (fun vk vj wx => ∃ (j : Nat), j ≤ k ∧ vj = .int .i64 j ∧ vk = .bool (okTo (lisF MF) IDS j) ∧ Hid (Kp [] wo wx)) (fun _ vj _ => k - (intOf vj).toNat)
        case atStart => exact ⟨0, Nat.zero_le _, rfl, rfl, Lib.hid (Kp.refl _ _)⟩
        case round =>
          obtain ⟨j, hj, rfl, rfl, HKJ⟩ := hrel
          obtain ⟨wj, rfl⟩ : ∃ wj : World, wj = wr := ⟨_, rfl⟩
          have cKj := HKJ.out.cell cK (by simp)
          by_cases hlj : j < k
          · obtain ⟨b3, o3, ra3, n3, rc3, hfa, cf, hn3', hrf⟩ := HM.out.at' j (by rw [← HMN.out]; exact hlj)
            subst hfa
            have hstep := okTo_step (lisF MF) IDS j
            have HAL0 : Hid (∀ W, Kp [] w W → Calls Try.prog 51 #[.slice ra3 n3 rc3, .int .i64 (nth IDS j)] W fun e w' => e = .returned (.bool (allowedB (rowF (lisF MF) j) (nth IDS j))) ∧ w' = W) := Lib.hid (fun W hW => r20Allowed_any ra3 n3 rc3 _ hn3' (nth IDS j) W (hrf.keep0 hW))
            have HCF : Hid (∀ W, Kp [] w W → W.cell? ⟨b3, o3 + j, none⟩ = some (.slice ra3 n3 rc3)) := Lib.hid (fun W hW => hW.cell cf (by simp))
            have HXC : Hid (∀ W, Kp [] wo W → W.cell? ⟨g2, j, none⟩ = some (.int .i64 (nth IDS j)) ∧ W.cell? ⟨g, i * 5, none⟩ = some (.slice (some ⟨g2, 0, none⟩) k ic) ∧ W.cell? ⟨T, 2, none⟩ = some (.slice (some ⟨g, 0, none⟩) rn rc)) := Lib.hid (fun W hW => ⟨hW.cell (HID.out j hlj) (by simp), hW.cell CR.out (by simp), hW.cell CRS.out (by simp)⟩)
            have HWK : Hid (∀ W, Kp [] wj W → Kp [] wo W ∧ Kp [] w W) := Lib.hid (fun W hW => ⟨HKJ.out.tr hW, ((K1.out.tr HK.out).tr HKJ.out).tr hW⟩)
            generalize allowedB (rowF (lisF MF) j) (nth IDS j) = q at *
            generalize nth IDS j = xv at HAL0 HXC
            have HSTP := Lib.hid hstep
            generalize okTo (lisF MF) IDS j = ok at *
            clear cf hrf hn3' hstep
            go_upto_region 11 with (fail)
            cases ok
            · skip
              refine wp_region_K (by kernel_rfl) [.val (.bool false), .val (.bool false), .val (undef), .val (undef), .val (undef), .val (undef), .val (undef), .val (undef), .val (undef), .val (undef), .val (undef), .val (undef), .val (undef), .val (undef), .val (undef), .val (undef), .val (undef), .val (undef), .val ((.bool false)), .val ((.bool false))] [[(12, none)], [(45, some 0)], [(46, some 1)], [(46, some 1)], [(46, some 1)], [(46, some 1)], [(46, some 1)], [(46, some 1)], [(46, some 1)], [(46, some 1)], [(46, some 1)], [(46, some 1)], [(46, some 1)], [(46, some 1)], [(46, some 1)], [(46, some 1)], [(46, some 1)], [(46, some 1)], [(46, some 1), (62, some 17)], [(63, some 18)]] rfl (by kernel_rfl) ?_ ?_
              · refine ⟨?o0, ?o1, ?o2, ?o3, ?o4, ?o5, ?o6, ?o7, ?o8, ?o9, ?o10, ?o11, ?o12, ?o13, ?o14, ?o15, ?o16, ?o17, ?o18, ?o19, trivial⟩
                case o0 => intro aR wR hR; replace hR := hR.undrew; intro (h12 : aR.tmps[12]? = some (.bool false)); exact exec_val (c := .bool false) (wanted_none rfl) (by go_simp) rfl
                case o1 => intro aR wR hR; replace hR := hR.undrew; intro v45 h45 e45; replace e45 : v45 = .bool false := e45; subst e45; exact exec_val (c := .bool false) (wanted_none rfl) (by go_simp) rfl
                case o2 => intro aR wR hR; replace hR := hR.undrew; intro v46 h46 e46; replace e46 : v46 = .bool false := e46; subst e46; exact exec_pass (wanted_not (b := true) (t := 46) rfl rfl h46) rfl
                case o3 => intro aR wR hR; replace hR := hR.undrew; intro v46 h46 e46; replace e46 : v46 = .bool false := e46; subst e46; exact exec_pass (wanted_not (b := true) (t := 46) rfl rfl h46) rfl
                case o4 => intro aR wR hR; replace hR := hR.undrew; intro v46 h46 e46; replace e46 : v46 = .bool false := e46; subst e46; exact exec_pass (wanted_not (b := true) (t := 46) rfl rfl h46) rfl
                case o5 => intro aR wR hR; replace hR := hR.undrew; intro v46 h46 e46; replace e46 : v46 = .bool false := e46; subst e46; exact exec_pass (wanted_not (b := true) (t := 46) rfl rfl h46) rfl
                case o6 => intro aR wR hR; replace hR := hR.undrew; intro v46 h46 e46; replace e46 : v46 = .bool false := e46; subst e46; exact exec_pass (wanted_not (b := true) (t := 46) rfl rfl h46) rfl
                case o7 => intro aR wR hR; replace hR := hR.undrew; intro v46 h46 e46; replace e46 : v46 = .bool false := e46; subst e46; exact exec_pass (wanted_not (b := true) (t := 46) rfl rfl h46) rfl
                case o8 => intro aR wR hR; replace hR := hR.undrew; intro v46 h46 e46; replace e46 : v46 = .bool false := e46; subst e46; exact exec_pass (wanted_not (b := true) (t := 46) rfl rfl h46) rfl
                case o9 => intro aR wR hR; replace hR := hR.undrew; intro v46 h46 e46; replace e46 : v46 = .bool false := e46; subst e46; exact exec_pass (wanted_not (b := true) (t := 46) rfl rfl h46) rfl
                case o10 => intro aR wR hR; replace hR := hR.undrew; intro v46 h46 e46; replace e46 : v46 = .bool false := e46; subst e46; exact exec_pass (wanted_not (b := true) (t := 46) rfl rfl h46) rfl
                case o11 => intro aR wR hR; replace hR := hR.undrew; intro v46 h46 e46; replace e46 : v46 = .bool false := e46; subst e46; exact exec_pass (wanted_not (b := true) (t := 46) rfl rfl h46) rfl
                case o12 => intro aR wR hR; replace hR := hR.undrew; intro v46 h46 e46; replace e46 : v46 = .bool false := e46; subst e46; exact exec_pass (wanted_not (b := true) (t := 46) rfl rfl h46) rfl
                case o13 => intro aR wR hR; replace hR := hR.undrew; intro v46 h46 e46; replace e46 : v46 = .bool false := e46; subst e46; exact exec_pass (wanted_not (b := true) (t := 46) rfl rfl h46) rfl
                case o14 => intro aR wR hR; replace hR := hR.undrew; intro v46 h46 e46; replace e46 : v46 = .bool false := e46; subst e46; exact exec_pass (wanted_not (b := true) (t := 46) rfl rfl h46) rfl
                case o15 => intro aR wR hR; replace hR := hR.undrew; intro v46 h46 e46; replace e46 : v46 = .bool false := e46; subst e46; exact exec_pass (wanted_not (b := true) (t := 46) rfl rfl h46) rfl
                case o16 => intro aR wR hR; replace hR := hR.undrew; intro v46 h46 e46; replace e46 : v46 = .bool false := e46; subst e46; exact exec_pass (wanted_not (b := true) (t := 46) rfl rfl h46) rfl
                case o17 => intro aR wR hR; replace hR := hR.undrew; intro v46 h46 e46; replace e46 : v46 = .bool false := e46; subst e46; exact exec_pass (wanted_not (b := true) (t := 46) rfl rfl h46) rfl
                case o18 => intro aR wR hR; replace hR := hR.undrew; intro v46 h46 e46; replace e46 : v46 = .bool false := e46; subst e46; intro v62 h62 e62; replace e62 : v62 = undef := e62; subst e62; exact exec_val (c := (.bool false)) (wanted_none rfl) (by go_simp) rfl
                case o19 => intro aR wR hR; replace hR := hR.undrew; intro v63 h63 e63; replace e63 : v63 = (.bool false) := e63; subst e63; exact exec_val (c := (.bool false)) (wanted_none rfl) (by go_simp) rfl
              · intro vs wR hR hV
                obtain ⟨e0, e1, e2, e3, e4, e5, e6, e7, e8, e9, e10, e11, e12, e13, e14, e15, e16, e17, e18, e19, -⟩ := hV
                replace e0 : vs 0 = .bool false := e0
                replace e1 : vs 1 = .bool false := e1
                replace e2 : vs 2 = undef := e2
                replace e3 : vs 3 = undef := e3
                replace e4 : vs 4 = undef := e4
                replace e5 : vs 5 = undef := e5
                replace e6 : vs 6 = undef := e6
                replace e7 : vs 7 = undef := e7
                replace e8 : vs 8 = undef := e8
                replace e9 : vs 9 = undef := e9
                replace e10 : vs 10 = undef := e10
                replace e11 : vs 11 = undef := e11
                replace e12 : vs 12 = undef := e12
                replace e13 : vs 13 = undef := e13
                replace e14 : vs 14 = undef := e14
                replace e15 : vs 15 = undef := e15
                replace e16 : vs 16 = undef := e16
                replace e17 : vs 17 = undef := e17
                replace e18 : vs 18 = (.bool false) := e18
                replace e19 : vs 19 = (.bool false) := e19
                simp only [putAll, e0, e1, e2, e3, e4, e5, e6, e7, e8, e9, e10, e11, e12, e13, e14, e15, e16, e17, e18, e19, Nat.reduceAdd, Nat.zero_add]
                clear e0 e1 e2 e3 e4 e5 e6 e7 e8 e9 e10 e11 e12 e13 e14 e15 e16 e17 e18 e19
                try simp only [List.setIfInBounds_toArray, List.set_cons_succ, List.set_cons_zero]
                go_wp2_with fail
                go_roundw
                case rel => exact ⟨j + 1, hlj, by go_num, by rw [HSTP.out]; rfl, Lib.hid (HKJ.out.tr hR)⟩
                case measure => simp [intOf]; omega
            · skip
              refine wp_region_K (by kernel_rfl) [.val (.bool true), .val (.bool true), .val (.slice (some ⟨b3, o3, none⟩) k mc), .val (.int .i64 (j : Int)), .val (.pointer (some ⟨b3, o3 + j, none⟩)), .val (.slice ra3 n3 rc3), .val (.pointer (some ⟨T, 0, none⟩)), .val (.pointer (some ⟨T, 0, none⟩)), .val (.pointer (some ⟨T, 2, none⟩)), .val (.slice (some ⟨g, 0, none⟩) rn rc), .val (.int .i64 (i : Int)), .val (.pointer (some ⟨g, i * 5, none⟩)), .val (.pointer (some ⟨g, i * 5, none⟩)), .val (.slice (some ⟨g2, 0, none⟩) k ic), .val (.int .i64 (j : Int)), .val (.pointer (some ⟨g2, j, none⟩)), .val (.int .i64 xv), .val (.bool q), .val (.bool q), .val (.bool q)] [[(12, none)], [(45, some 0)], [(46, some 1), (2, none)], [(46, some 1), (13, none)], [(46, some 1), (47, some 2), (48, some 3)], [(46, some 1), (49, some 4)], [(46, some 1), (0, none)], [(46, some 1), (51, some 6)], [(46, some 1), (52, some 7)], [(46, some 1), (53, some 8)], [(46, some 1), (11, none)], [(46, some 1), (54, some 9), (55, some 10)], [(46, some 1), (56, some 11)], [(46, some 1), (57, some 12)], [(46, some 1), (13, none)], [(46, some 1), (58, some 13), (59, some 14)], [(46, some 1), (60, some 15)], [(46, some 1), (50, some 5), (61, some 16)], [(46, some 1), (62, some 17)], [(63, some 18)]] rfl (by kernel_rfl) ?_ ?_
              · refine ⟨?o0, ?o1, ?o2, ?o3, ?o4, ?o5, ?o6, ?o7, ?o8, ?o9, ?o10, ?o11, ?o12, ?o13, ?o14, ?o15, ?o16, ?o17, ?o18, ?o19, trivial⟩
                case o0 => intro aR wR hR; replace hR := hR.undrew; intro (h12 : aR.tmps[12]? = some (.bool true)); exact exec_val (c := .bool true) (wanted_none rfl) (by go_simp) rfl
                case o1 => intro aR wR hR; replace hR := hR.undrew; intro v45 h45 e45; replace e45 : v45 = .bool true := e45; subst e45; exact exec_val (c := .bool true) (wanted_none rfl) (by go_simp) rfl
                case o2 => intro aR wR hR; replace hR := hR.undrew; intro v46 h46 e46; replace e46 : v46 = .bool true := e46; subst e46; intro (h2 : aR.tmps[2]? = some (.slice (some ⟨b3, o3, none⟩) k mc)); exact exec_val (c := .slice (some ⟨b3, o3, none⟩) k mc) (wanted_yes (b := true) (t := 46) rfl rfl h46) (by go_simp) rfl
                case o3 => intro aR wR hR; replace hR := hR.undrew; intro v46 h46 e46; replace e46 : v46 = .bool true := e46; subst e46; intro (h13 : aR.tmps[13]? = some (.int .i64 (j : Int))); exact exec_val (c := .int .i64 (j : Int)) (wanted_yes (b := true) (t := 46) rfl rfl h46) (by go_simp) rfl
                case o4 => intro aR wR hR; replace hR := hR.undrew; intro v46 h46 e46; replace e46 : v46 = .bool true := e46; subst e46; intro v47 h47 e47; replace e47 : v47 = .slice (some ⟨b3, o3, none⟩) k mc := e47; subst e47; intro v48 h48 e48; replace e48 : v48 = .int .i64 (j : Int) := e48; subst e48; exact exec_val (c := .pointer (some ⟨b3, o3 + j, none⟩)) (wanted_yes (b := true) (t := 46) rfl rfl h46) (by go_simp) rfl
                case o5 => intro aR wR hR; replace hR := hR.undrew; intro v46 h46 e46; replace e46 : v46 = .bool true := e46; subst e46; intro v49 h49 e49; replace e49 : v49 = .pointer (some ⟨b3, o3 + j, none⟩) := e49; subst e49; (have h1 := HCF.out wR (HWK.out wR hR).2); exact exec_val (c := .slice ra3 n3 rc3) (wanted_yes (b := true) (t := 46) rfl rfl h46) (by go_simp) rfl
                case o6 => intro aR wR hR; replace hR := hR.undrew; intro v46 h46 e46; replace e46 : v46 = .bool true := e46; subst e46; intro (h0 : aR.tmps[0]? = some (.pointer (some ⟨T, 0, none⟩))); exact exec_val (c := .pointer (some ⟨T, 0, none⟩)) (wanted_yes (b := true) (t := 46) rfl rfl h46) (by go_simp) rfl
                case o7 => intro aR wR hR; replace hR := hR.undrew; intro v46 h46 e46; replace e46 : v46 = .bool true := e46; subst e46; intro v51 h51 e51; replace e51 : v51 = .pointer (some ⟨T, 0, none⟩) := e51; subst e51; exact exec_val (c := .pointer (some ⟨T, 0, none⟩)) (wanted_yes (b := true) (t := 46) rfl rfl h46) (by go_simp) rfl
                case o8 => intro aR wR hR; replace hR := hR.undrew; intro v46 h46 e46; replace e46 : v46 = .bool true := e46; subst e46; intro v52 h52 e52; replace e52 : v52 = .pointer (some ⟨T, 0, none⟩) := e52; subst e52; exact exec_val (c := .pointer (some ⟨T, 2, none⟩)) (wanted_yes (b := true) (t := 46) rfl rfl h46) (by go_simp) rfl
                case o9 => intro aR wR hR; replace hR := hR.undrew; intro v46 h46 e46; replace e46 : v46 = .bool true := e46; subst e46; intro v53 h53 e53; replace e53 : v53 = .pointer (some ⟨T, 2, none⟩) := e53; subst e53; (have h1 := (HXC.out wR (HWK.out wR hR).1).2.2); exact exec_val (c := .slice (some ⟨g, 0, none⟩) rn rc) (wanted_yes (b := true) (t := 46) rfl rfl h46) (by go_simp) rfl
                case o10 => intro aR wR hR; replace hR := hR.undrew; intro v46 h46 e46; replace e46 : v46 = .bool true := e46; subst e46; intro (h11 : aR.tmps[11]? = some (.int .i64 (i : Int))); exact exec_val (c := .int .i64 (i : Int)) (wanted_yes (b := true) (t := 46) rfl rfl h46) (by go_simp) rfl
                case o11 => intro aR wR hR; replace hR := hR.undrew; intro v46 h46 e46; replace e46 : v46 = .bool true := e46; subst e46; intro v54 h54 e54; replace e54 : v54 = .slice (some ⟨g, 0, none⟩) rn rc := e54; subst e54; intro v55 h55 e55; replace e55 : v55 = .int .i64 (i : Int) := e55; subst e55; exact exec_val (c := .pointer (some ⟨g, i * 5, none⟩)) (wanted_yes (b := true) (t := 46) rfl rfl h46) (by go_simp) rfl
                case o12 => intro aR wR hR; replace hR := hR.undrew; intro v46 h46 e46; replace e46 : v46 = .bool true := e46; subst e46; intro v56 h56 e56; replace e56 : v56 = .pointer (some ⟨g, i * 5, none⟩) := e56; subst e56; exact exec_val (c := .pointer (some ⟨g, i * 5, none⟩)) (wanted_yes (b := true) (t := 46) rfl rfl h46) (by go_simp) rfl
                case o13 => intro aR wR hR; replace hR := hR.undrew; intro v46 h46 e46; replace e46 : v46 = .bool true := e46; subst e46; intro v57 h57 e57; replace e57 : v57 = .pointer (some ⟨g, i * 5, none⟩) := e57; subst e57; (have h1 := (HXC.out wR (HWK.out wR hR).1).2.1); exact exec_val (c := .slice (some ⟨g2, 0, none⟩) k ic) (wanted_yes (b := true) (t := 46) rfl rfl h46) (by go_simp) rfl
                case o14 => intro aR wR hR; replace hR := hR.undrew; intro v46 h46 e46; replace e46 : v46 = .bool true := e46; subst e46; intro (h13 : aR.tmps[13]? = some (.int .i64 (j : Int))); exact exec_val (c := .int .i64 (j : Int)) (wanted_yes (b := true) (t := 46) rfl rfl h46) (by go_simp) rfl
                case o15 => intro aR wR hR; replace hR := hR.undrew; intro v46 h46 e46; replace e46 : v46 = .bool true := e46; subst e46; intro v58 h58 e58; replace e58 : v58 = .slice (some ⟨g2, 0, none⟩) k ic := e58; subst e58; intro v59 h59 e59; replace e59 : v59 = .int .i64 (j : Int) := e59; subst e59; exact exec_val (c := .pointer (some ⟨g2, j, none⟩)) (wanted_yes (b := true) (t := 46) rfl rfl h46) (by go_simp) rfl
                case o16 => intro aR wR hR; replace hR := hR.undrew; intro v46 h46 e46; replace e46 : v46 = .bool true := e46; subst e46; intro v60 h60 e60; replace e60 : v60 = .pointer (some ⟨g2, j, none⟩) := e60; subst e60; (have h1 := (HXC.out wR (HWK.out wR hR).1).1); exact exec_val (c := .int .i64 xv) (wanted_yes (b := true) (t := 46) rfl rfl h46) (by go_simp) rfl
                case o17 => intro aR wR hR; replace hR := hR.undrew; intro v46 h46 e46; replace e46 : v46 = .bool true := e46; subst e46; intro v50 h50 e50; replace e50 : v50 = .slice ra3 n3 rc3 := e50; subst e50; intro v61 h61 e61; replace e61 : v61 = .int .i64 xv := e61; subst e61; refine exec_call (wanted_yes (b := true) (t := 46) rfl rfl h46) (by go_simp; exact ⟨rfl, rfl⟩) ?_; refine (HAL0.out wR (HWK.out wR hR).2).mono ?_; rintro e7 w8 ⟨rfl, rfl⟩; exact ⟨_, rfl, rfl, Kp.refl _ _⟩
                case o18 => intro aR wR hR; replace hR := hR.undrew; intro v46 h46 e46; replace e46 : v46 = .bool true := e46; subst e46; intro v62 h62 e62; replace e62 : v62 = .bool q := e62; subst e62; exact exec_val (c := .bool q) (wanted_none rfl) (by go_simp) rfl
                case o19 => intro aR wR hR; replace hR := hR.undrew; intro v63 h63 e63; replace e63 : v63 = .bool q := e63; subst e63; exact exec_val (c := .bool q) (wanted_none rfl) (by go_simp) rfl
              · intro vs wR hR hV
                obtain ⟨e0, e1, e2, e3, e4, e5, e6, e7, e8, e9, e10, e11, e12, e13, e14, e15, e16, e17, e18, e19, -⟩ := hV
                replace e0 : vs 0 = .bool true := e0
                replace e1 : vs 1 = .bool true := e1
                replace e2 : vs 2 = .slice (some ⟨b3, o3, none⟩) k mc := e2
                replace e3 : vs 3 = .int .i64 (j : Int) := e3
                replace e4 : vs 4 = .pointer (some ⟨b3, o3 + j, none⟩) := e4
                replace e5 : vs 5 = .slice ra3 n3 rc3 := e5
                replace e6 : vs 6 = .pointer (some ⟨T, 0, none⟩) := e6
                replace e7 : vs 7 = .pointer (some ⟨T, 0, none⟩) := e7
                replace e8 : vs 8 = .pointer (some ⟨T, 2, none⟩) := e8
                replace e9 : vs 9 = .slice (some ⟨g, 0, none⟩) rn rc := e9
                replace e10 : vs 10 = .int .i64 (i : Int) := e10
                replace e11 : vs 11 = .pointer (some ⟨g, i * 5, none⟩) := e11
                replace e12 : vs 12 = .pointer (some ⟨g, i * 5, none⟩) := e12
                replace e13 : vs 13 = .slice (some ⟨g2, 0, none⟩) k ic := e13
                replace e14 : vs 14 = .int .i64 (j : Int) := e14
                replace e15 : vs 15 = .pointer (some ⟨g2, j, none⟩) := e15
                replace e16 : vs 16 = .int .i64 xv := e16
                replace e17 : vs 17 = .bool q := e17
                replace e18 : vs 18 = .bool q := e18
                replace e19 : vs 19 = .bool q := e19
                simp only [putAll, e0, e1, e2, e3, e4, e5, e6, e7, e8, e9, e10, e11, e12, e13, e14, e15, e16, e17, e18, e19, Nat.reduceAdd, Nat.zero_add]
                clear e0 e1 e2 e3 e4 e5 e6 e7 e8 e9 e10 e11 e12 e13 e14 e15 e16 e17 e18 e19
                try simp only [List.setIfInBounds_toArray, List.set_cons_succ, List.set_cons_zero]
                go_wp2_with fail
                go_roundw
                case rel => exact ⟨j + 1, hlj, by go_num, by rw [HSTP.out]; rfl, Lib.hid (HKJ.out.tr hR)⟩
                case measure => simp [intOf]; omega
          · obtain rfl : k = j := by omega
            have HOK : Hid (okTo (lisF MF) IDS k = okRec (lisF MF) IDS) := Lib.hid (okTo_all _ _ HIL.out.symm)
            rw [HOK.out]
            generalize okRec (lisF MF) IDS = ok at *
            have HO5 := Lib.hid (HO.out.keep0 HKJ.out)
            have HK5 := Lib.hid (HK.out.tr HKJ.out)
            cases ok
            · have HS : Hid (leafL R (lisF MF) yf (i + 1 - yf) = leafL R (lisF MF) yf (i - yf)) := Lib.hid (by rw [HSTEP.out]; simp)
              go_wp2_with fail
              go_roundw
              case rel => exact ⟨i + 1, ln, la, lc, by omega, hlt, by omega, by go_num, rfl, Lib.hid (by rw [HS.out]; exact HLN.out), Lib.hid (by rw [HS.out]; exact HO5.out), HK5⟩
              case measure => simp [intOf]; omega
            · have HS : Hid (leafL R (lisF MF) yf (i + 1 - yf) = leafL R (lisF MF) yf (i - yf) ++ [i]) := Lib.hid (by rw [HSTEP.out]; simp)
              have HSZ2 : Hid (w1.heap.size ≤ wj.heap.size) := Lib.hid HK5.out.size
              have HNL : Hid (ln = (nums (leafL R (lisF MF) yf (i - yf))).length) := Lib.hid (by rw [nums_len]; exact HLN.out)
              go_wp2_with (at_builtin; refine wpList_app rfl (.tmp 65) (.tmp 67) 23 23 rfl w1.heap.size 3 .i64 8 Try.underlying23 infoInt la lc ln _ HNL.out [(i : Int)] _ 1 rfl rfl rfl (HO5.out.alloc _) (src_one Try.underlying23 (one_cell (heap_alloc_at rfl)).1) (by omega) (by omega) (by have := HSZ2.out; simp only [World.size_alloc]; omega) ?_; intro la1 lc1 w7 ho7 kp7 _ _; have HO7 := Lib.hid ho7; have HK7 : Hid (Kp [] w1 w7) := Lib.hid ((HK5.out.alloc _).trans kp7 (by simp) (fun b hb => .inr (HO5.out.ob_ge b hb).1)); clear ho7 kp7)
              go_roundw
              case rel => exact ⟨i + 1, ln + 1, la1, lc1, by omega, hlt, by omega, by go_num, by go_num, Lib.hid (by rw [HS.out, List.length_append, ← HLN.out]; rfl), Lib.hid (by rw [HS.out, nums_app]; exact HO7.out), HK7⟩
              case measure => simp [intOf]; omega
      · obtain rfl : i = yt := by omega
        go_wp2_with fail
        try rw [Exit.noGoto_ret]
        go_ret
        exact ⟨la, lc, by rw [HAL.out, ← HLN.out]; rfl, by rw [HAL.out]; exact HO.out.mono HSZ.out, K1.out.tr HK.out⟩
  · have HNE := Lib.hid hk0
    obtain ⟨hask, -, hlt'⟩ := HASKK.out hk0
    simp only [pn] at hask hlt'
    have hkn0 : ((kn : Int) == 0) = false := by
      have := List.length_pos_iff.2 hk0
      rw [← HKN.out] at this
      simp; omega
    have hydk : yd < k := by
      have hp0 : 0 < kids.length := List.length_pos_iff.2 hk0
      obtain ⟨z, hz⟩ := HNI.out.kid 0 kids[0] (by simp only [pn]; exact List.getElem?_eq_getElem hp0)
      have := hz.dk
      simpa [pn] using this
    obtain ⟨b3, o3, ra3, n3, rc3, hfa, cf, hn3, hrf⟩ := (HM.out.keep0 K1.out).at' yd (by rw [← HMN.out]; exact hydk)
    subst hfa
    obtain ⟨b4, o4, hba, cb⟩ := (HB.out.keep0 K1.out).at' yd (by rw [← HBN.out]; exact hydk)
    subst hba
    have hrf3 : n3 ≤ rc3 ∧ rc3 ≤ 9223372036854775807 := ⟨by rw [hn3]; exact hrf.1, hrf.2.1⟩
    have HRF := Lib.hid hrf
    have HN3 := Lib.hid hn3
    obtain ⟨m, hm⟩ : ∃ m, m = rowF (lisF MF) yd := ⟨_, rfl⟩
    obtain ⟨b, hb⟩ : ∃ b, b = nthF BF yd := ⟨_, rfl⟩
    rw [← hm] at HRF HN3 hask hlt'
    rw [← hb] at cb hask hlt'
    have HLT := Lib.hid hlt'
    have HAK := Lib.hid hask
    have HCF := Lib.hid cf
    obtain ⟨fr, hfr⟩ : ∃ fr, fr = (decide (n3 = 0) && !b) := ⟨_, rfl⟩
    have HFR := Lib.hid hfr
    have hkl : Hid (starF kids = if (lastK kids).1 = -1 then ((lastK kids).2 : Int) else -1) := Lib.hid (starF_last hk0 (by have := HLAST.out; simpa [pn] using this))
    obtain ⟨gk, hgk⟩ : ∃ g, ka = some ⟨g, 0, none⟩ := by
      obtain ⟨g, h1, -⟩ := HKO.out.at' kdlies (i := 0) (List.length_pos_iff.2 hk0)
      exact ⟨g, h1⟩
    subst hgk
    have HKC : Hid (∀ s, (hs : s < kids.length) → ∀ W, Kp [] w1 W → W.cell? ⟨gk, s * 2, none⟩ = some (.int .i64 kids[s].1) ∧ W.cell? ⟨gk, s * 2 + 1, none⟩ = some (.int .i64 ((kids[s].2 : Nat) : Int))) := Lib.hid (fun s hs W hW => by
      obtain ⟨g, h1, h2, -, -⟩ := (HKO.out.keep0 (K1.out.tr hW)).at' kdlies hs
      cases h1
      have e0 := (h2 0 (by omega)).1
      have e1 := (h2 1 (by omega)).1
      rw [Nat.add_zero] at e0
      exact ⟨e0, e1⟩)
    clear hask hlt' hm hb hfr hn3 hrf hk0 HASKL HASKK
    go_upto_region 15 with (fail)
    go_cut [14] (fun v14 wx => v14 = .bool fr ∧ wx = w1)
    case first =>
      by_cases h3 : n3 = 0
      · subst h3
        cases b
        · go_wp2_with fail
          go_meet
          exact ⟨by rw [HFR.out]; rfl, rfl⟩
        · go_wp2_with fail
          go_meet
          exact ⟨by rw [HFR.out]; rfl, rfl⟩
      · have hb3 : ((n3 : Int) == 0) = false := by simp; omega
        have hff : fr = false := by rw [HFR.out, decide_eq_false h3]; rfl
        go_wp2_with fail
        go_meet
        exact ⟨by rw [hff], rfl⟩
    obtain ⟨rfl, rfl⟩ := hcut
    obtain ⟨w2, rfl⟩ : ∃ w2 : World, w2 = wc := ⟨_, rfl⟩
    go_wp2_with fail
    go_loopw [15, 16] (fun vs vi wr => ∃ s : Nat, s ≤ kn ∧ vi = .int .i64 s ∧ vs = .int .i64 (starF (kids.take s)) ∧ wr = w2) (fun _ vi _ => kn - (intOf vi).toNat)
    case atStart => exact ⟨0, Nat.zero_le _, rfl, rfl, rfl⟩
    case round =>
      obtain ⟨s, hs, rfl, rfl, rfl⟩ := hrel
      by_cases hlt : s < kn
      · have hsl : s < kids.length := by rw [← HKN.out]; exact hlt
        obtain ⟨d0, d1⟩ := HKC.out s hsl wr (Kp.refl _ _)
        have HST : Hid (starF (kids.take (s + 1)) = if kids[s].1 = -1 then (kids[s].2 : Int) else starF (kids.take s)) := Lib.hid (by rw [take_snoc (List.getElem?_eq_getElem hsl), starF_snoc])
        generalize kids[s] = kd at d0 d1 HST
        obtain ⟨yi, yn⟩ := kd
        dsimp only at d0 d1 HST
        clear hsl
        by_cases h1 : yi = -1
        · subst h1
          have HS2 : Hid (starF (kids.take (s + 1)) = (yn : Int)) := Lib.hid (by rw [HST.out]; rfl)
          go_wp2_with fail
          go_roundw
          case rel => exact ⟨s + 1, hlt, by go_num, by rw [HS2.out], trivial⟩
          case measure => simp [intOf]; omega
        · have hb1 : (yi == (-1 : Int)) = false := by simpa using h1
          have HS2 : Hid (starF (kids.take (s + 1)) = starF (kids.take s)) := Lib.hid (by rw [HST.out, if_neg h1])
          clear h1
          generalize starF (kids.take s) = sv at *
          go_wp2_with fail
          go_roundw
          case rel => exact ⟨s + 1, hlt, by go_num, by rw [HS2.out], trivial⟩
          case measure => simp [intOf]; omega
      · obtain rfl : kn = s := by omega
        have HSF : Hid (starF (kids.take kn) = if (lastK kids).1 = -1 then ((lastK kids).2 : Int) else -1) := Lib.hid (by rw [List.take_of_length_le (by rw [← HKN.out]; exact Nat.le_refl _)]; exact hkl.out)
        obtain ⟨sv, hsv⟩ : ∃ sv, sv = starF (kids.take kn) := ⟨_, rfl⟩
        rw [← hsv] at HSF ⊢
        clear hsv
        obtain ⟨w3, rfl⟩ : ∃ w3 : World, w3 = wr := ⟨_, rfl⟩
        go_upto_region 22 with (fail)
        go_cut [109] (fun v109 wx => ∃ c : Bool, v109 = .bool c ∧ Hid (c = true → fr = true ∧ (lastK kids).1 = -1 ∧ sv = ((lastK kids).2 : Int)) ∧ Hid (c = false → ¬ (fr = true ∧ (lastK kids).1 = -1)) ∧ wx = w3)
        case first =>
          cases fr
          · go_wp2_with fail
            go_meet
            exact ⟨false, rfl, Lib.hid (fun h => by cases h), Lib.hid (fun _ h => by cases h.1), rfl⟩
          · by_cases hl : (lastK kids).1 = -1
            · have hsv2 : sv = ((lastK kids).2 : Int) := by rw [HSF.out, if_pos hl]
              have HL := Lib.hid hl
              have HS2 := Lib.hid hsv2
              have hge : decide ((0 : Int) ≤ sv) = true := by rw [hsv2]; simp
              clear hl hsv2
              go_wp2_with fail
              go_meet
              exact ⟨true, rfl, Lib.hid (fun _ => ⟨by simp, HL.out, HS2.out⟩), Lib.hid (fun h => by cases h), rfl⟩
            · have hsv2 : sv = -1 := by rw [HSF.out, if_neg hl]
              have HL := Lib.hid hl
              have hge : decide ((0 : Int) ≤ sv) = false := by rw [hsv2]; simp
              clear hl hsv2
              go_wp2_with fail
              go_meet
              exact ⟨false, rfl, Lib.hid (fun h => by cases h), Lib.hid (fun _ h => HL.out h.2), rfl⟩
        obtain ⟨c, rfl, HCT, HCN, rfl⟩ := hcut
        cases c
        rotate_left
        · obtain ⟨hf1, hf2, hf3⟩ := HCT.out rfl
          have hfr2 : n3 = 0 ∧ b = false := by have := HFR.out; rw [hf1] at this; simpa using this.symm
          have HBL : Hid (belowP kids m b = [(lastK kids).2]) := Lib.hid (belowP_star hf2 (by rw [← HN3.out]; exact hfr2.1) hfr2.2)
          have HA1 : Hid (ask n = ask (lastK kids).2) := Lib.hid (by rw [HAK.out, HBL.out]; simp)
          obtain ⟨hl1, hl2⟩ := HLT.out (lastK kids).2 (by rw [HBL.out]; simp)
          rw [HNQL.out] at hl2
          have hcc := HIH.out (lastK kids).2 hl1 (by rw [← HNNE.out]; exact hl2) (by rw [← HASK.out, ← HA1.out]; exact HFEW.out) wc (HW.out.tr K1.out)
          rw [← HASK.out, ← HA1.out, ← hf3] at hcc
          have HCC := Lib.hid hcc
          clear hf1 hf2 hf3 hfr2 hl1 hl2 hcc
          go_wp2_with fail
          refine HCC.out.mono ?_
          rintro _ w7 ⟨la, lc, rfl, ho, kp⟩
          have HO := Lib.hid ho
          have KP := Lib.hid kp
          clear ho kp HCC
          go_wp2_with fail
          try rw [Exit.noGoto_ret]
          go_ret
          exact ⟨la, lc, rfl, HO.out.mono HSZ.out, K1.out.tr KP.out⟩
        · have HBL : Hid (belowP kids m b = someK m kids) := Lib.hid (by
            have h9 := HCN.out rfl
            rw [belowP_all (fun h => h9 ⟨by rw [HFR.out, HN3.out, h.2.1, h.2.2]; rfl, h.1⟩)]; rfl)
          have HAK2 : Hid (ask n = (someK m kids).flatMap ask) := Lib.hid (by rw [HAK.out, HBL.out])
          have HLT2 := Lib.hid HLT.out
          rw [HBL.out] at HLT2
          obtain ⟨w4, rfl⟩ : ∃ w4 : World, w4 = wc := ⟨_, rfl⟩
          clear HCT HCN HSF
          clear p1 p2
          go_wp2_with fail
          go_loopw [10, 17] (fun vo vi wr => ∃ (s : Nat) (la : Option Addr) (lc : Nat) (L : List Nat), s ≤ kn ∧ vi = .int .i64 s ∧ vo = .slice la L.length lc ∧ Hid (L = (someK m (kids.take s)).flatMap ask) ∧ Hid (Own wr w4.heap.size 3 .i64 la lc (nums L)) ∧ Hid (Kp [] w4 wr)) (fun _ vi _ => kn - (intOf vi).toNat)
          case atStart => exact ⟨0, none, 0, [], Nat.zero_le _, rfl, rfl, Lib.hid rfl, Lib.hid (Own.nil _ _ _ _), Lib.hid (Kp.refl _ _)⟩
          case round =>
            obtain ⟨s, la, lc, L, hs, rfl, rfl, HL, HO, HK⟩ := hrel
            obtain ⟨ws, rfl⟩ : ∃ ws : World, ws = wr := ⟨_, rfl⟩
            have p3s := HK.out.cell p3 (by simp)
            have p0s := HK.out.cell p0 (by simp)
            obtain ⟨ln, hln⟩ : ∃ ln, ln = L.length := ⟨_, rfl⟩
            rw [← hln]
            have HLN := Lib.hid hln
            have HFL : Hid (((someK m kids).flatMap ask).length ≤ 100000) := Lib.hid (by rw [← HAK2.out]; exact HFEW.out)
            have hlb : ln ≤ 100000 := by
              have h1 := someK_pre m kids s ask
              have h2 := HFL.out
              rw [← HL.out, ← hln] at h1
              omega
            clear hln
            by_cases hlt : s < kn
            · have hsl : s < kids.length := by rw [← HKN.out]; exact hlt
              have HST : Hid (someK m (kids.take (s + 1)) = someK m (kids.take s) ++ if takeK m kids[s] then [kids[s].2] else []) := Lib.hid (by rw [take_snoc (List.getElem?_eq_getElem hsl), someK_snoc])
              have HMEM : Hid (takeK m kids[s] = true → kids[s].2 ∈ someK m kids) := Lib.hid (fun h => List.mem_map.2 ⟨kids[s], List.mem_filter.2 ⟨List.getElem_mem hsl, h⟩, rfl⟩)
              have HKW : Hid (∀ W, Kp [] ws W → W.cell? ⟨gk, s * 2, none⟩ = some (.int .i64 kids[s].1) ∧ W.cell? ⟨gk, s * 2 + 1, none⟩ = some (.int .i64 ((kids[s].2 : Nat) : Int))) := Lib.hid (fun W hW => HKC.out s hsl W (HK.out.tr hW))
              have HRO : Hid (∀ W, Kp [] ws W → W.cell? ⟨p, 3, none⟩ = some (.slice (some ⟨gk, 0, none⟩) kn kc) ∧ W.cell? ⟨p, 0, none⟩ = some (.int .i64 (yd : Int)) ∧ W.cell? ⟨b3, o3 + yd, none⟩ = some (.slice ra3 n3 rc3)) := Lib.hid (fun W hW => ⟨hW.cell p3s (by simp), hW.cell p0s (by simp), (HK.out.tr hW).cell HCF.out (by simp)⟩)
              generalize kids[s] = kd at HST HMEM HKW
              obtain ⟨yi, yn⟩ := kd
              dsimp only at HST HMEM HKW
              have HAL0 : Hid (∀ W, Kp [] ws W → Calls Try.prog 51 #[.slice ra3 n3 rc3, .int .i64 yi] W fun e w' => e = .returned (.bool (allowedB m yi)) ∧ w' = W) := Lib.hid (fun W hW => r20Allowed_any ra3 n3 rc3 _ HN3.out yi W (HRF.out.keep0 (HK.out.tr hW)))
              obtain ⟨t, ht⟩ : ∃ t, t = takeK m (yi, yn) := ⟨_, rfl⟩
              rw [← ht] at HST HMEM
              have HTK : Hid (t = (decide (yi ≠ -1) && allowedB m yi)) := Lib.hid ht
              clear ht hsl
              go_upto_region 27 with (fail)
              go_cut [142] (fun v142 wx => v142 = .bool t ∧ Hid (Kp [] ws wx))
              case first =>
                by_cases h1 : yi = -1
                · subst h1
                  have HTF : Hid (t = false) := Lib.hid (by rw [HTK.out]; rfl)
                  refine wp_region_K (by kernel_rfl) [.val (.pointer (some ⟨p, 3, none⟩)), .val (.slice (some ⟨gk, 0, none⟩) kn kc), .val (.int .i64 (s : Int)), .val (.pointer (some ⟨gk, s * 2, none⟩)), .val (.pointer (some ⟨gk, s * 2, none⟩)), .val (.int .i64 (-1)), .val (.bool false), .val (.bool false), .val (undef), .val (undef), .val (undef), .val (undef), .val (undef), .val (undef), .val (undef), .val (undef), .val (undef), .val (undef), .val (undef), .val (undef), .val ((.bool false))] [[(9, none)], [(122, some 0)], [(17, none)], [(123, some 1), (124, some 2)], [(125, some 3)], [(126, some 4)], [(127, some 5)], [(128, some 6)], [(129, some 7)], [(129, some 7)], [(129, some 7)], [(129, some 7)], [(129, some 7)], [(129, some 7)], [(129, some 7)], [(129, some 7)], [(129, some 7)], [(129, some 7)], [(129, some 7)], [(129, some 7)], [(129, some 7), (141, some 19)]] rfl (by kernel_rfl) ?_ ?_
                  · refine ⟨?o0, ?o1, ?o2, ?o3, ?o4, ?o5, ?o6, ?o7, ?o8, ?o9, ?o10, ?o11, ?o12, ?o13, ?o14, ?o15, ?o16, ?o17, ?o18, ?o19, ?o20, trivial⟩
                    case o0 => intro aR wR hR; replace hR := hR.undrew; intro (h9 : aR.tmps[9]? = some (.pointer (some ⟨p, 0, none⟩))); exact exec_val (c := .pointer (some ⟨p, 3, none⟩)) (wanted_none rfl) (by go_simp) rfl
                    case o1 => intro aR wR hR; replace hR := hR.undrew; intro v122 h122 e122; replace e122 : v122 = .pointer (some ⟨p, 3, none⟩) := e122; subst e122; (have h1 := (HRO.out wR hR).1); exact exec_val (c := .slice (some ⟨gk, 0, none⟩) kn kc) (wanted_none rfl) (by go_simp) rfl
                    case o2 => intro aR wR hR; replace hR := hR.undrew; intro (h17 : aR.tmps[17]? = some (.int .i64 (s : Int))); exact exec_val (c := .int .i64 (s : Int)) (wanted_none rfl) (by go_simp) rfl
                    case o3 => intro aR wR hR; replace hR := hR.undrew; intro v123 h123 e123; replace e123 : v123 = .slice (some ⟨gk, 0, none⟩) kn kc := e123; subst e123; intro v124 h124 e124; replace e124 : v124 = .int .i64 (s : Int) := e124; subst e124; exact exec_val (c := .pointer (some ⟨gk, s * 2, none⟩)) (wanted_none rfl) (by go_simp) rfl
                    case o4 => intro aR wR hR; replace hR := hR.undrew; intro v125 h125 e125; replace e125 : v125 = .pointer (some ⟨gk, s * 2, none⟩) := e125; subst e125; exact exec_val (c := .pointer (some ⟨gk, s * 2, none⟩)) (wanted_none rfl) (by go_simp) rfl
                    case o5 => intro aR wR hR; replace hR := hR.undrew; intro v126 h126 e126; replace e126 : v126 = .pointer (some ⟨gk, s * 2, none⟩) := e126; subst e126; (have h1 := (HKW.out wR hR).1); exact exec_val (c := .int .i64 (-1)) (wanted_none rfl) (by go_simp) rfl
                    case o6 => intro aR wR hR; replace hR := hR.undrew; intro v127 h127 e127; replace e127 : v127 = .int .i64 (-1) := e127; subst e127; exact exec_val (c := .bool false) (wanted_none rfl) (by go_simp) rfl
                    case o7 => intro aR wR hR; replace hR := hR.undrew; intro v128 h128 e128; replace e128 : v128 = .bool false := e128; subst e128; exact exec_val (c := .bool false) (wanted_none rfl) (by go_simp) rfl
                    case o8 => intro aR wR hR; replace hR := hR.undrew; intro v129 h129 e129; replace e129 : v129 = .bool false := e129; subst e129; exact exec_pass (wanted_not (b := true) (t := 129) rfl rfl h129) rfl
                    case o9 => intro aR wR hR; replace hR := hR.undrew; intro v129 h129 e129; replace e129 : v129 = .bool false := e129; subst e129; exact exec_pass (wanted_not (b := true) (t := 129) rfl rfl h129) rfl
                    case o10 => intro aR wR hR; replace hR := hR.undrew; intro v129 h129 e129; replace e129 : v129 = .bool false := e129; subst e129; exact exec_pass (wanted_not (b := true) (t := 129) rfl rfl h129) rfl
                    case o11 => intro aR wR hR; replace hR := hR.undrew; intro v129 h129 e129; replace e129 : v129 = .bool false := e129; subst e129; exact exec_pass (wanted_not (b := true) (t := 129) rfl rfl h129) rfl
                    case o12 => intro aR wR hR; replace hR := hR.undrew; intro v129 h129 e129; replace e129 : v129 = .bool false := e129; subst e129; exact exec_pass (wanted_not (b := true) (t := 129) rfl rfl h129) rfl
                    case o13 => intro aR wR hR; replace hR := hR.undrew; intro v129 h129 e129; replace e129 : v129 = .bool false := e129; subst e129; exact exec_pass (wanted_not (b := true) (t := 129) rfl rfl h129) rfl
                    case o14 => intro aR wR hR; replace hR := hR.undrew; intro v129 h129 e129; replace e129 : v129 = .bool false := e129; subst e129; exact exec_pass (wanted_not (b := true) (t := 129) rfl rfl h129) rfl
                    case o15 => intro aR wR hR; replace hR := hR.undrew; intro v129 h129 e129; replace e129 : v129 = .bool false := e129; subst e129; exact exec_pass (wanted_not (b := true) (t := 129) rfl rfl h129) rfl
                    case o16 => intro aR wR hR; replace hR := hR.undrew; intro v129 h129 e129; replace e129 : v129 = .bool false := e129; subst e129; exact exec_pass (wanted_not (b := true) (t := 129) rfl rfl h129) rfl
                    case o17 => intro aR wR hR; replace hR := hR.undrew; intro v129 h129 e129; replace e129 : v129 = .bool false := e129; subst e129; exact exec_pass (wanted_not (b := true) (t := 129) rfl rfl h129) rfl
                    case o18 => intro aR wR hR; replace hR := hR.undrew; intro v129 h129 e129; replace e129 : v129 = .bool false := e129; subst e129; exact exec_pass (wanted_not (b := true) (t := 129) rfl rfl h129) rfl
                    case o19 => intro aR wR hR; replace hR := hR.undrew; intro v129 h129 e129; replace e129 : v129 = .bool false := e129; subst e129; exact exec_pass (wanted_not (b := true) (t := 129) rfl rfl h129) rfl
                    case o20 => intro aR wR hR; replace hR := hR.undrew; intro v129 h129 e129; replace e129 : v129 = .bool false := e129; subst e129; intro v141 h141 e141; replace e141 : v141 = undef := e141; subst e141; exact exec_val (c := (.bool false)) (wanted_none rfl) (by go_simp) rfl
                  · intro vs wR hR hV
                    obtain ⟨e0, e1, e2, e3, e4, e5, e6, e7, e8, e9, e10, e11, e12, e13, e14, e15, e16, e17, e18, e19, e20, -⟩ := hV
                    replace e0 : vs 0 = .pointer (some ⟨p, 3, none⟩) := e0
                    replace e1 : vs 1 = .slice (some ⟨gk, 0, none⟩) kn kc := e1
                    replace e2 : vs 2 = .int .i64 (s : Int) := e2
                    replace e3 : vs 3 = .pointer (some ⟨gk, s * 2, none⟩) := e3
                    replace e4 : vs 4 = .pointer (some ⟨gk, s * 2, none⟩) := e4
                    replace e5 : vs 5 = .int .i64 (-1) := e5
                    replace e6 : vs 6 = .bool false := e6
                    replace e7 : vs 7 = .bool false := e7
                    replace e8 : vs 8 = undef := e8
                    replace e9 : vs 9 = undef := e9
                    replace e10 : vs 10 = undef := e10
                    replace e11 : vs 11 = undef := e11
                    replace e12 : vs 12 = undef := e12
                    replace e13 : vs 13 = undef := e13
                    replace e14 : vs 14 = undef := e14
                    replace e15 : vs 15 = undef := e15
                    replace e16 : vs 16 = undef := e16
                    replace e17 : vs 17 = undef := e17
                    replace e18 : vs 18 = undef := e18
                    replace e19 : vs 19 = undef := e19
                    replace e20 : vs 20 = (.bool false) := e20
                    simp only [putAll, e0, e1, e2, e3, e4, e5, e6, e7, e8, e9, e10, e11, e12, e13, e14, e15, e16, e17, e18, e19, e20, Nat.reduceAdd, Nat.zero_add]
                    clear e0 e1 e2 e3 e4 e5 e6 e7 e8 e9 e10 e11 e12 e13 e14 e15 e16 e17 e18 e19 e20
                    try simp only [List.setIfInBounds_toArray, List.set_cons_succ, List.set_cons_zero]
                    go_wp2_with fail
                    go_meet
                    exact ⟨by rw [HTF.out], Lib.hid hR⟩
                · have hb1 : (yi != (-1 : Int)) = true := by simpa using h1
                  obtain ⟨q, hq⟩ : ∃ q, q = allowedB m yi := ⟨_, rfl⟩
                  rw [← hq] at HAL0
                  have HTF : Hid (t = q) := Lib.hid (by rw [HTK.out, decide_eq_true h1, hq]; rfl)
                  clear hq h1
                  refine wp_region_K (by kernel_rfl) [.val (.pointer (some ⟨p, 3, none⟩)), .val (.slice (some ⟨gk, 0, none⟩) kn kc), .val (.int .i64 (s : Int)), .val (.pointer (some ⟨gk, s * 2, none⟩)), .val (.pointer (some ⟨gk, s * 2, none⟩)), .val (.int .i64 yi), .val (.bool true), .val (.bool true), .val (.slice (some ⟨b3, o3, none⟩) k mc), .val (.pointer (some ⟨p, 0, none⟩)), .val (.int .i64 (yd : Int)), .val (.pointer (some ⟨b3, o3 + yd, none⟩)), .val (.slice ra3 n3 rc3), .val (.pointer (some ⟨p, 3, none⟩)), .val (.slice (some ⟨gk, 0, none⟩) kn kc), .val (.int .i64 (s : Int)), .val (.pointer (some ⟨gk, s * 2, none⟩)), .val (.pointer (some ⟨gk, s * 2, none⟩)), .val (.int .i64 yi), .val (.bool q), .val (.bool q)] [[(9, none)], [(122, some 0)], [(17, none)], [(123, some 1), (124, some 2)], [(125, some 3)], [(126, some 4)], [(127, some 5)], [(128, some 6)], [(129, some 7), (2, none)], [(129, some 7), (9, none)], [(129, some 7), (131, some 9)], [(129, some 7), (130, some 8), (132, some 10)], [(129, some 7), (133, some 11)], [(129, some 7), (9, none)], [(129, some 7), (135, some 13)], [(129, some 7), (17, none)], [(129, some 7), (136, some 14), (137, some 15)], [(129, some 7), (138, some 16)], [(129, some 7), (139, some 17)], [(129, some 7), (134, some 12), (140, some 18)], [(129, some 7), (141, some 19)]] rfl (by kernel_rfl) ?_ ?_
                  · refine ⟨?o0, ?o1, ?o2, ?o3, ?o4, ?o5, ?o6, ?o7, ?o8, ?o9, ?o10, ?o11, ?o12, ?o13, ?o14, ?o15, ?o16, ?o17, ?o18, ?o19, ?o20, trivial⟩
                    case o0 => intro aR wR hR; replace hR := hR.undrew; intro (h9 : aR.tmps[9]? = some (.pointer (some ⟨p, 0, none⟩))); exact exec_val (c := .pointer (some ⟨p, 3, none⟩)) (wanted_none rfl) (by go_simp) rfl
                    case o1 => intro aR wR hR; replace hR := hR.undrew; intro v122 h122 e122; replace e122 : v122 = .pointer (some ⟨p, 3, none⟩) := e122; subst e122; (have h1 := (HRO.out wR hR).1); exact exec_val (c := .slice (some ⟨gk, 0, none⟩) kn kc) (wanted_none rfl) (by go_simp) rfl
                    case o2 => intro aR wR hR; replace hR := hR.undrew; intro (h17 : aR.tmps[17]? = some (.int .i64 (s : Int))); exact exec_val (c := .int .i64 (s : Int)) (wanted_none rfl) (by go_simp) rfl
                    case o3 => intro aR wR hR; replace hR := hR.undrew; intro v123 h123 e123; replace e123 : v123 = .slice (some ⟨gk, 0, none⟩) kn kc := e123; subst e123; intro v124 h124 e124; replace e124 : v124 = .int .i64 (s : Int) := e124; subst e124; exact exec_val (c := .pointer (some ⟨gk, s * 2, none⟩)) (wanted_none rfl) (by go_simp) rfl
                    case o4 => intro aR wR hR; replace hR := hR.undrew; intro v125 h125 e125; replace e125 : v125 = .pointer (some ⟨gk, s * 2, none⟩) := e125; subst e125; exact exec_val (c := .pointer (some ⟨gk, s * 2, none⟩)) (wanted_none rfl) (by go_simp) rfl
                    case o5 => intro aR wR hR; replace hR := hR.undrew; intro v126 h126 e126; replace e126 : v126 = .pointer (some ⟨gk, s * 2, none⟩) := e126; subst e126; (have h1 := (HKW.out wR hR).1); exact exec_val (c := .int .i64 yi) (wanted_none rfl) (by go_simp) rfl
                    case o6 => intro aR wR hR; replace hR := hR.undrew; intro v127 h127 e127; replace e127 : v127 = .int .i64 yi := e127; subst e127; exact exec_val (c := .bool true) (wanted_none rfl) (by go_simp) rfl
                    case o7 => intro aR wR hR; replace hR := hR.undrew; intro v128 h128 e128; replace e128 : v128 = .bool true := e128; subst e128; exact exec_val (c := .bool true) (wanted_none rfl) (by go_simp) rfl
                    case o8 => intro aR wR hR; replace hR := hR.undrew; intro v129 h129 e129; replace e129 : v129 = .bool true := e129; subst e129; intro (h2 : aR.tmps[2]? = some (.slice (some ⟨b3, o3, none⟩) k mc)); exact exec_val (c := .slice (some ⟨b3, o3, none⟩) k mc) (wanted_yes (b := true) (t := 129) rfl rfl h129) (by go_simp) rfl
                    case o9 => intro aR wR hR; replace hR := hR.undrew; intro v129 h129 e129; replace e129 : v129 = .bool true := e129; subst e129; intro (h9 : aR.tmps[9]? = some (.pointer (some ⟨p, 0, none⟩))); exact exec_val (c := .pointer (some ⟨p, 0, none⟩)) (wanted_yes (b := true) (t := 129) rfl rfl h129) (by go_simp) rfl
                    case o10 => intro aR wR hR; replace hR := hR.undrew; intro v129 h129 e129; replace e129 : v129 = .bool true := e129; subst e129; intro v131 h131 e131; replace e131 : v131 = .pointer (some ⟨p, 0, none⟩) := e131; subst e131; (have h1 := (HRO.out wR hR).2.1); exact exec_val (c := .int .i64 (yd : Int)) (wanted_yes (b := true) (t := 129) rfl rfl h129) (by go_simp) rfl
                    case o11 => intro aR wR hR; replace hR := hR.undrew; intro v129 h129 e129; replace e129 : v129 = .bool true := e129; subst e129; intro v130 h130 e130; replace e130 : v130 = .slice (some ⟨b3, o3, none⟩) k mc := e130; subst e130; intro v132 h132 e132; replace e132 : v132 = .int .i64 (yd : Int) := e132; subst e132; exact exec_val (c := .pointer (some ⟨b3, o3 + yd, none⟩)) (wanted_yes (b := true) (t := 129) rfl rfl h129) (by go_simp) rfl
                    case o12 => intro aR wR hR; replace hR := hR.undrew; intro v129 h129 e129; replace e129 : v129 = .bool true := e129; subst e129; intro v133 h133 e133; replace e133 : v133 = .pointer (some ⟨b3, o3 + yd, none⟩) := e133; subst e133; (have h1 := (HRO.out wR hR).2.2); exact exec_val (c := .slice ra3 n3 rc3) (wanted_yes (b := true) (t := 129) rfl rfl h129) (by go_simp) rfl
                    case o13 => intro aR wR hR; replace hR := hR.undrew; intro v129 h129 e129; replace e129 : v129 = .bool true := e129; subst e129; intro (h9 : aR.tmps[9]? = some (.pointer (some ⟨p, 0, none⟩))); exact exec_val (c := .pointer (some ⟨p, 3, none⟩)) (wanted_yes (b := true) (t := 129) rfl rfl h129) (by go_simp) rfl
                    case o14 => intro aR wR hR; replace hR := hR.undrew; intro v129 h129 e129; replace e129 : v129 = .bool true := e129; subst e129; intro v135 h135 e135; replace e135 : v135 = .pointer (some ⟨p, 3, none⟩) := e135; subst e135; (have h1 := (HRO.out wR hR).1); exact exec_val (c := .slice (some ⟨gk, 0, none⟩) kn kc) (wanted_yes (b := true) (t := 129) rfl rfl h129) (by go_simp) rfl
                    case o15 => intro aR wR hR; replace hR := hR.undrew; intro v129 h129 e129; replace e129 : v129 = .bool true := e129; subst e129; intro (h17 : aR.tmps[17]? = some (.int .i64 (s : Int))); exact exec_val (c := .int .i64 (s : Int)) (wanted_yes (b := true) (t := 129) rfl rfl h129) (by go_simp) rfl
                    case o16 => intro aR wR hR; replace hR := hR.undrew; intro v129 h129 e129; replace e129 : v129 = .bool true := e129; subst e129; intro v136 h136 e136; replace e136 : v136 = .slice (some ⟨gk, 0, none⟩) kn kc := e136; subst e136; intro v137 h137 e137; replace e137 : v137 = .int .i64 (s : Int) := e137; subst e137; exact exec_val (c := .pointer (some ⟨gk, s * 2, none⟩)) (wanted_yes (b := true) (t := 129) rfl rfl h129) (by go_simp) rfl
                    case o17 => intro aR wR hR; replace hR := hR.undrew; intro v129 h129 e129; replace e129 : v129 = .bool true := e129; subst e129; intro v138 h138 e138; replace e138 : v138 = .pointer (some ⟨gk, s * 2, none⟩) := e138; subst e138; exact exec_val (c := .pointer (some ⟨gk, s * 2, none⟩)) (wanted_yes (b := true) (t := 129) rfl rfl h129) (by go_simp) rfl
                    case o18 => intro aR wR hR; replace hR := hR.undrew; intro v129 h129 e129; replace e129 : v129 = .bool true := e129; subst e129; intro v139 h139 e139; replace e139 : v139 = .pointer (some ⟨gk, s * 2, none⟩) := e139; subst e139; (have h1 := (HKW.out wR hR).1); exact exec_val (c := .int .i64 yi) (wanted_yes (b := true) (t := 129) rfl rfl h129) (by go_simp) rfl
                    case o19 => intro aR wR hR; replace hR := hR.undrew; intro v129 h129 e129; replace e129 : v129 = .bool true := e129; subst e129; intro v134 h134 e134; replace e134 : v134 = .slice ra3 n3 rc3 := e134; subst e134; intro v140 h140 e140; replace e140 : v140 = .int .i64 yi := e140; subst e140; refine exec_call (wanted_yes (b := true) (t := 129) rfl rfl h129) (by go_simp; exact ⟨rfl, rfl⟩) ?_; refine (HAL0.out wR hR).mono ?_; rintro e7 w8 ⟨rfl, rfl⟩; exact ⟨_, rfl, rfl, Kp.refl _ _⟩
                    case o20 => intro aR wR hR; replace hR := hR.undrew; intro v129 h129 e129; replace e129 : v129 = .bool true := e129; subst e129; intro v141 h141 e141; replace e141 : v141 = .bool q := e141; subst e141; exact exec_val (c := .bool q) (wanted_none rfl) (by go_simp) rfl
                  · intro vs wR hR hV
                    obtain ⟨e0, e1, e2, e3, e4, e5, e6, e7, e8, e9, e10, e11, e12, e13, e14, e15, e16, e17, e18, e19, e20, -⟩ := hV
                    replace e0 : vs 0 = .pointer (some ⟨p, 3, none⟩) := e0
                    replace e1 : vs 1 = .slice (some ⟨gk, 0, none⟩) kn kc := e1
                    replace e2 : vs 2 = .int .i64 (s : Int) := e2
                    replace e3 : vs 3 = .pointer (some ⟨gk, s * 2, none⟩) := e3
                    replace e4 : vs 4 = .pointer (some ⟨gk, s * 2, none⟩) := e4
                    replace e5 : vs 5 = .int .i64 yi := e5
                    replace e6 : vs 6 = .bool true := e6
                    replace e7 : vs 7 = .bool true := e7
                    replace e8 : vs 8 = .slice (some ⟨b3, o3, none⟩) k mc := e8
                    replace e9 : vs 9 = .pointer (some ⟨p, 0, none⟩) := e9
                    replace e10 : vs 10 = .int .i64 (yd : Int) := e10
                    replace e11 : vs 11 = .pointer (some ⟨b3, o3 + yd, none⟩) := e11
                    replace e12 : vs 12 = .slice ra3 n3 rc3 := e12
                    replace e13 : vs 13 = .pointer (some ⟨p, 3, none⟩) := e13
                    replace e14 : vs 14 = .slice (some ⟨gk, 0, none⟩) kn kc := e14
                    replace e15 : vs 15 = .int .i64 (s : Int) := e15
                    replace e16 : vs 16 = .pointer (some ⟨gk, s * 2, none⟩) := e16
                    replace e17 : vs 17 = .pointer (some ⟨gk, s * 2, none⟩) := e17
                    replace e18 : vs 18 = .int .i64 yi := e18
                    replace e19 : vs 19 = .bool q := e19
                    replace e20 : vs 20 = .bool q := e20
                    simp only [putAll, e0, e1, e2, e3, e4, e5, e6, e7, e8, e9, e10, e11, e12, e13, e14, e15, e16, e17, e18, e19, e20, Nat.reduceAdd, Nat.zero_add]
                    clear e0 e1 e2 e3 e4 e5 e6 e7 e8 e9 e10 e11 e12 e13 e14 e15 e16 e17 e18 e19 e20
                    try simp only [List.setIfInBounds_toArray, List.set_cons_succ, List.set_cons_zero]
                    go_wp2_with fail
                    go_meet
                    exact ⟨by rw [HTF.out], Lib.hid hR⟩
              obtain ⟨rfl, HKC5⟩ := hcut
              obtain ⟨w5, rfl⟩ : ∃ w5 : World, w5 = wc := ⟨_, rfl⟩
              have HO5 := Lib.hid (HO.out.keep0 HKC5.out)
              have HK5 := Lib.hid (HK.out.tr HKC5.out)
              cases t
              · have HS : Hid (someK m (kids.take (s + 1)) = someK m (kids.take s)) := Lib.hid (by rw [HST.out]; simp)
                clear p3s p0s
                go_wp2_with fail
                go_roundw
                case rel => exact ⟨s + 1, la, lc, L, hlt, by go_num, by rw [HLN.out], Lib.hid (by rw [HS.out]; exact HL.out), HO5, HK5⟩
                case measure => simp [intOf]; omega
              · have HS : Hid ((someK m (kids.take (s + 1))).flatMap ask = L ++ ask yn) := Lib.hid (by rw [HST.out, HL.out]; simp)
                have hmem := HMEM.out rfl
                have hlen : (ask yn).length ≤ 100000 := by
                  have h1 := askflat_le ask _ _ hmem
                  have h2 := HFL.out
                  omega
                obtain ⟨hl1, hl2⟩ := HLT2.out yn hmem
                rw [HNQL.out] at hl2
                have hcc := HIH.out yn hl1 (by rw [← HNNE.out]; exact hl2) (by rw [← HASK.out]; exact hlen) w5 (HW.out.tr (K1.out.tr HK5.out))
                rw [← HASK.out] at hcc
                have HCC := Lib.hid hcc
                obtain ⟨m2, hm2⟩ : ∃ m2, m2 = (ask yn).length := ⟨_, rfl⟩
                rw [← hm2] at HCC
                have HM2 : Hid (m2 = (nums (ask yn)).length) := Lib.hid (by rw [nums_len, hm2])
                have hmb : ln + m2 ≤ 100000 := by
                  have h1 := someK_pre m kids (s + 1) ask
                  have h2 := HFL.out
                  rw [HS.out, List.length_append, ← HLN.out, ← hm2] at h1
                  omega
                have HM3 := Lib.hid hm2
                have d3 := (HRO.out w5 HKC5.out).1
                have d1 := (HKW.out w5 HKC5.out).2
                have HNL : Hid (ln = (nums L).length) := Lib.hid (by rw [nums_len]; exact HLN.out)
                clear hmem hlen hl1 hl2 hcc hm2 p3s p0s
                go_wp2_with fail
                refine HCC.out.mono ?_
                rintro _ w7 ⟨la2, lc2, rfl, ho, kp⟩
                have HO7 := Lib.hid (HO5.out.keep0 kp)
                have HR7 := Lib.hid ho.rd
                have HK7 := Lib.hid (HK5.out.tr kp)
                have HSZ7 := Lib.hid HK7.out.size
                clear ho kp HCC d3 d1
                go_wp2_with (at_builtin; refine wpList_app rfl (.tmp 143) (.tmp 153) 23 23 rfl w4.heap.size 3 .i64 8 Try.underlying23 infoInt la lc ln _ HNL.out (nums (ask yn)) _ m2 HM2.out rfl rfl HO7.out (by rw [HM2.out]; exact src_rd HR7.out Try.underlying23) (by omega) (by omega) HSZ7.out ?_; intro la3 lc3 w8 ho8 kp8 _ _; have HO8 := Lib.hid ho8; have HK8 : Hid (Kp [] w4 w8) := Lib.hid (HK7.out.trans kp8 (by simp) (fun b hb => .inr (HO7.out.ob_ge b hb).1)); clear ho8 kp8)
                go_roundw
                case rel => exact ⟨s + 1, la3, lc3, L ++ ask yn, hlt, by go_num, by rw [List.length_append, ← HLN.out, ← HM3.out], Lib.hid HS.out.symm, Lib.hid (by rw [nums_app]; exact HO8.out), HK8⟩
                case measure => simp [intOf]; omega
            · obtain rfl : kn = s := by omega
              have HFIN : Hid (L = ask n) := Lib.hid (by rw [HAK2.out, HL.out, List.take_of_length_le (by rw [← HKN.out]; exact Nat.le_refl _)])
              go_wp2_with fail
              try rw [Exit.noGoto_ret]
              go_ret
              exact ⟨la, lc, by rw [← HFIN.out, ← HLN.out]; rfl, by rw [← HFIN.out]; exact HO.out.mono HSZ.out, K1.out.tr HK.out⟩
/-- What a question takes of the document's tree. -/
theorem r20walk_any {T k mt leaf B : Nat} {X : Nat → Prop} {ra : Option Addr} {rc : Nat} {RL : List Ra} {na : Option Addr} {nc : Nat} {NL : List Nh} (w0 : World) (h : RTree T k mt leaf B X ra rc RL na nc NL w0) (hk : 1 ≤ k) (hk8 : k ≤ 8)
    (ma : Option Addr) (mc : Nat) (MF : List Bh) (hM : k = MF.length) (hm : RdM w0 ma mc MF) (ba : Option Addr) (bc : Nat) (BF : List Bool) (hB : k = BF.length) (hb : RdF w0 ba bc BF)
    (hbt : Built k leaf (RL.map Ra.pr) (NL.map pn) (lisF MF) BF) (hlast : ∀ (i : Nat) (y : PN), (NL.map pn)[i]? = some y → ∀ (s : Nat) (kid : Int × Nat), y.kids[s]? = some kid → kid.1 = -1 → s + 1 = y.kids.length) :
    ∀ m n, NL.length - n ≤ m → n < NL.length → WalkA T k (RL.map Ra.pr) (NL.map pn) ma mc (lisF MF) ba bc BF w0 n := by
  have hnb : NL.length ≤ 100000000 := by have := hbt.nb; simpa using this
  have hrb : RL.length ≤ 100000 := by have := hbt.rb; simpa using this
  intro m
  induction m with
  | zero => intro n h1 h2; omega
  | succ m ih =>
    intro n h1 h2
    refine r20walk_step w0 h hk hk8 ma mc MF hM hm ba bc BF hB hb _ rfl _ rfl n h2 hnb hrb (fun y hy => ?_) (fun y hy => hlast n y hy) (fun c h3 h4 => ih c (by omega) h4)
    obtain ⟨y', hy', hi⟩ := hbt.node n (by rw [List.length_map]; exact h2)
    rw [hy] at hy'
    cases hy'
    exact hi
theorem r20Ask_any {T k mt leaf B : Nat} {X : Nat → Prop} {ra : Option Addr} {rc : Nat} {RL : List Ra} {na : Option Addr} {nc : Nat} {NL : List Nh} (w : World) (h : RTree T k mt leaf B X ra rc RL na nc NL w) (hk : 1 ≤ k) (hk8 : k ≤ 8)
    (ma : Option Addr) (mc : Nat) (MF : List Bh) (hM : k = MF.length) (hm : RdM w ma mc MF) (ba : Option Addr) (bc : Nat) (BF : List Bool) (hB : k = BF.length) (hb : RdF w ba bc BF)
    (hbt : Built k leaf (RL.map Ra.pr) (NL.map pn) (lisF MF) BF) (hlast : ∀ (i : Nat) (y : PN), (NL.map pn)[i]? = some y → ∀ (s : Nat) (kid : Int × Nat), y.kids[s]? = some kid → kid.1 = -1 → s + 1 = y.kids.length) (L : List Nat) (hL : L = askN k (RL.map Ra.pr) (NL.map pn) (lisF MF) BF 0) :
    Calls Try.prog 30 #[.pointer (some ⟨T, 0, none⟩), .slice ma k mc, .slice ba k bc] w fun e w' => ∃ la lc, e = .returned (.slice la L.length lc) ∧ Own w' w.heap.size 3 .i64 la lc (nums L) ∧ Kp [] w w' := by
  have hp : 0 < NL.length := by have := hbt.pos; rwa [List.length_map] at this
  have h0 := r20walk_any w h hk hk8 ma mc MF hM hm ba bc BF hB hb hbt hlast NL.length 0 (by omega) hp
  have hf := hbt.few
  unfold WalkA at h0
  rw [← hL] at h0 hf
  have HC : Hid (Calls Try.prog 48 #[.pointer (some ⟨T, 0, none⟩), .int .i64 0, .slice ma k mc, .slice ba k bc] w fun e w' => ∃ la lc, e = .returned (.slice la L.length lc) ∧ Own w' w.heap.size 3 .i64 la lc (nums L) ∧ Kp [] w w') := Lib.hid (h0 hf w (Kp.refl _ _))
  clear h0 hf hp h hm hb hbt hlast hL hM hB
  go_enter Try.func30, Try.ntmps30
  go_wp2_with fail
  refine HC.out.mono ?_
  rintro _ w7 ⟨la, lc, rfl, ho, kp⟩
  have HO := Lib.hid ho
  have HK := Lib.hid kp
  clear ho kp HC
  go_wp2_with fail
  go_ret
  exact ⟨la, lc, rfl, HO.out, HK.out⟩
end Go.Proofs.Ythmaobmgogmaoaa
