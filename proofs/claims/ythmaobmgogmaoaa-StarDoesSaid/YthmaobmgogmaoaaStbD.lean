/-
  Star-trees: StarBound.
  Star-trees: of how many rows a node is.
-/
import Derived.Test.YthmaobmgogmaoaaStbA
import Derived.Test.YthmaobmgogmaoaaStbC
import Derived.Test.YthmaobmgogmaoaaStbI
namespace Go.Proofs.Ythmaobmgogmaoaa
open Go.RowKit Go.Shelf
set_option linter.unusedSimpArgs false
set_option linter.unusedVariables false
set_option maxRecDepth 100000

theorem great_no {S M : List (List Int)} {rows : Nat} (h : great19 S M rows = false) : (∀ l ∈ S, l.length ≤ rows) ∧ (∀ l ∈ M, l.length ≤ rows) ∧ S.length ≤ 10 ∧ M.length ≤ 10 := by
  unfold great19 at h
  simp only [Bool.or_eq_false_iff, decide_eq_false_iff_not, List.any_eq_false, longIn, decide_eq_true_eq] at h
  obtain ⟨h1, h2, h3, h4⟩ := h
  exact ⟨fun l hl => by have := h1 l hl; omega, fun l hl => by have := h2 l hl; omega, by omega, by omega⟩
theorem row0_le {S : List (List Int)} {rows : Nat} (h : ∀ l ∈ S, l.length ≤ rows) : (rowP S 0).length ≤ rows := by
  unfold rowP
  cases S with
  | nil => simp
  | cons a t => simpa using h a (by simp)
/-- What may be has no id below nought. -/
theorem mayS_ge {S M : List (List Int)} {many : List Int} {leaf : Int} (h : mayS S many M leaf = true) : ∀ l ∈ S, ∀ x ∈ l, 0 ≤ x := by
  obtain ⟨-, -, -, -, -, -, h7, -⟩ := mayS_ok h
  intro l hl x hx
  obtain ⟨j, hj, rfl⟩ := List.getElem_of_mem hl
  have e : rowP S j = S[j] := by simp [rowP, hj]
  exact ((h7 j hj).2.2.2 x (by rw [e]; exact hx)).1
theorem stars_step {l : List Int} {j : Nat} (h : j < l.length) : starsOf (l.take (j + 1)) = starsOf (l.take j) + if nth l j = -1 then 1 else 0 := by
  rw [take_nth1 l j h]
  unfold starsOf
  rw [List.count_append, List.count_singleton]
  simp

set_option maxHeartbeats 3200000 in
theorem starBound_any (sa : Option Addr) (sn sc : Nat) (S : List Ih) (hS : sn = S.length) (ma : Option Addr) (mn mc : Nat) (many : List Int) (hM : mn = many.length) (da : Option Addr) (dn dc : Nat) (D : List Ih) (hD : dn = D.length) (leaf : Int) (w : World) (hs : RdI w sa sc S) (hm : Rd w .i64 ma mc many) (hd : RdI w da dc D) :
    Calls Try.prog 3 #[.slice sa sn sc, .slice ma mn mc, .slice da dn dc, .int .i64 leaf] w fun e w' => e = .returned (.bool true) ∧ Kp [] w w' := by
  have HS := Lib.hid hs
  have HM := Lib.hid hm
  have HD := Lib.hid hd
  have HSN := Lib.hid hS
  have HMN := Lib.hid hM
  have HDN := Lib.hid hD
  have hc1 : mn ≤ mc := by rw [hM]; exact hm.1
  have hc2 := hm.2.1
  have HGR := Lib.hid (r19Great_any sa sn sc S hS da dn dc D hD 80 w hs hd)
  have HSL : Hid ((lis S).length = sn) := Lib.hid (by rw [hS]; simp [lis])
  have HDL : Hid ((lis D).length = dn) := Lib.hid (by rw [hD]; simp [lis])
  obtain ⟨v, hv⟩ : ∃ v, v = great19 (lis S) (lis D) 80 := ⟨_, rfl⟩
  rw [← hv] at HGR
  have HV := Lib.hid hv
  clear hs hm hd hS hM hD hv
  go_enter Try.func3, Try.ntmps3
  go_wp2_with fail
  refine HGR.out.mono ?_
  rintro e w1 ⟨rfl, rfl⟩
  cases v
  rotate_left
  · go_wp2_with fail
    refine (known19_any w1).mono ?_
    rintro e w2 ⟨rfl, kp2⟩
    go_wp2_with fail
    go_ret
    exact ⟨rfl, kp2⟩
  by_cases h10 : (10 : Int) < (mn : Int)
  · go_wp2_with fail
    refine (known19_any w1).mono ?_
    rintro e w2 ⟨rfl, kp2⟩
    go_wp2_with fail
    go_ret
    exact ⟨rfl, kp2⟩
  have hgr := great_no HV.out.symm
  have hr0 := row0_le hgr.1
  have hs10 : sn ≤ 10 := by have := hgr.2.2.1; rw [HSL.out] at this; exact this
  have hd10 : dn ≤ 10 := by have := hgr.2.2.2; rw [HDL.out] at this; exact this
  have HR0 := Lib.hid hr0
  have HOF := Lib.hid (stOf_any sa sn sc S HSN.out ma mn mc many HMN.out da dn dc D HDN.out leaf w1 HS.out HM.out HD.out hr0)
  clear hgr hr0
  go_wp2_with fail
  refine HOF.out.mono ?_
  rintro e w2 ⟨kp2, ⟨h1, rfl⟩ | ⟨hmay, T, lf, rfl, hlf, hT, ra, rc, RL, na, nc, NL, hTr, hEq⟩⟩
  · go_wp2_with fail
    refine (known19_any w2).mono ?_
    rintro e w3 ⟨rfl, kp3⟩
    have HF := Lib.hid (kp2.tr kp3)
    clear kp2 kp3
    go_wp2_with fail
    go_ret
    exact ⟨rfl, HF.out⟩
  rw [HSL.out, HDL.out] at hTr
  have hok := mayS_ok hmay
  rw [HSL.out] at hok
  obtain ⟨hk1, hk8, -, -, -, -, -, -⟩ := hok
  obtain ⟨n, hn⟩ : ∃ n, n = (rowP (lis S) 0).length := ⟨_, rfl⟩
  have hn80 : n ≤ 80 := by rw [hn]; exact HR0.out
  obtain ⟨R, hR⟩ : ∃ R, R = RL.map (pr sn) := ⟨_, rfl⟩
  have hRof : (ofP (lis S) (lis D) lf).R = R := by rw [← hEq, hR, HSL.out]
  obtain ⟨B, hB80, hBR, hbd, hsum, hpre, hrec⟩ := bound_law (S := lis S) (M := lis D) (leaf := lf) (n := n) (by rw [hn]; rfl) hn80 (mayS_ge hmay)
  rw [hRof] at hBR hbd hsum hpre hrec
  rw [HSL.out] at hbd hrec
  obtain ⟨rl, hrl⟩ : ∃ rl, rl = RL.length := ⟨_, rfl⟩
  have HRL : Hid (R.length = rl) := Lib.hid (by rw [hR, List.length_map, hrl])
  have HRLE := Lib.hid hrl
  rw [HRL.out] at hBR hbd
  have HTR : Hid (TreeH T sn dn lf w1.heap.size (fun _ => False) ra rc RL na nc NL w2) := Lib.hid hTr
  have HREQ := Lib.hid hR
  have HREC := Lib.hid hrec
  have HPRE := Lib.hid hpre
  have HSUM := Lib.hid hsum
  have HK2 := Lib.hid kp2
  have HNEQ := Lib.hid hn
  have hrlb : rl ≤ 880 := by
    have : (sn + 1) * B ≤ 11 * 80 := Nat.mul_le_mul (by omega) hB80
    omega
  have HBD := Lib.hid hbd
  obtain ⟨b0, off0, xa0, xn0, xc0, hsa, d0, hxn0, -⟩ := (HS.out.keep0 HK2.out).at' 0 (by rw [← HSN.out]; omega)
  obtain rfl : xn0 = n := by rw [hxn0, hn]
  rw [Nat.add_zero] at d0
  have D0 := Lib.hid d0
  subst hsa
  have HCS : Hid (sn ≤ sc ∧ sc ≤ 9223372036854775807) := Lib.hid ⟨by rw [HSN.out]; exact HS.out.1.1, HS.out.1.2.1⟩
  clear hmay hlf hT hTr hEq kp2 hn hR hRof hsum hpre hrec hrl d0 hxn0 hbd
  go_wp2_with fail
  refine (stRecords_any HTR.out hk1).mono ?_
  rintro e w3 ⟨rfl, rfl⟩
  rw [← HRLE.out]
  go_wp2_with fail
  go_loopw [11, 12, 45] (fun vb vr vi wr => ∃ i b : Nat, i ≤ rl ∧ b ≤ i ∧ vi = .int .i64 i ∧ vb = .int .i64 b ∧ vr = .int .i64 (csum (R.take b)) ∧ Hid (b = min i B) ∧ Hid (Kp [] w3 wr)) (fun _ _ vi _ => rl - (intOf vi).toNat)
  case atStart => exact ⟨0, 0, Nat.zero_le _, Nat.le_refl _, rfl, rfl, by simp [csum], Lib.hid (by omega), Lib.hid (Kp.refl _ _)⟩
  case round =>
    obtain ⟨i, b, hi, hbi, rfl, rfl, rfl, HB, HK⟩ := hrel
    obtain ⟨wo, rfl⟩ : ∃ wo : World, wo = wr := ⟨_, rfl⟩
    obtain ⟨cs, hcs⟩ : ∃ cs, cs = csum (R.take b) := ⟨_, rfl⟩
    rw [← hcs]
    have hcsb : 0 ≤ cs ∧ cs ≤ 80 := by rw [hcs]; exact HPRE.out b (by have := HB.out; omega)
    have HCSE := Lib.hid hcs
    clear hcs
    by_cases hlt : i < rl
    · have hget : ∃ r, R[i]? = some r := ⟨_, List.getElem?_eq_getElem (by rw [HRL.out]; exact hlt)⟩
      obtain ⟨r, hr⟩ := hget
      obtain ⟨q1, q2, q3⟩ := HREC.out i r hr
      have HGET := Lib.hid hr
      have HST := Lib.hid q3
      have hr2 : (RL.map (pr sn))[i]? = some r := by rw [← HREQ.out]; exact hr
      have HRC := Lib.hid (stRecord_at wo (HTR.out.keep0 HK.out) hk1 hk8 (by omega) i hr2)
      clear hr hr2 q3
      go_wp2_with fail
      refine HRC.out.mono ?_
      rintro e w11 ⟨x, rfl, hx, hox, kpw11⟩
      unfold raV
      go_upto_region 11 with (refine wpList_store_row rfl 34 _ _ rfl w11.heap.size #[.slice x.ia x.ids.length x.ic, .int .i64 x.cnt, .slice x.sa x.ms.length x.sc, .slice x.la x.ms.length x.lc, .slice x.ga x.ms.length x.gc] rfl rfl 34 _ (heap_alloc_at rfl) (by kernel_rfl) rfl (by simp [Value.oneCell']) ?_)
      obtain ⟨p, hp⟩ : ∃ p, p = w11.heap.size := ⟨_, rfl⟩
      generalize hz : (w11.alloc (Obj.cells _ _)).setRow _ _ = w12
      rw [← hp] at hz ⊢
      have hrp : w12.heap[p]? = some (.cells #[.slice x.ia x.ids.length x.ic, .int .i64 x.cnt, .slice x.sa x.ms.length x.sc, .slice x.la x.ms.length x.lc, .slice x.ga x.ms.length x.gc] 34) := by rw [← hz]; exact setRow_heap _ p _ _ _ _ (heap_alloc_at hp)
      have kp : Kp [] w11 w12 := by rw [← hz]; exact ((Kp.refl [] w11).alloc _).setRowF _ _ (.inr (by omega))
      have e1 : x.ids = r.ids := by rw [← hx]; rfl
      have e2 : x.cnt = r.cnt := by rw [← hx]; rfl
      have hxl : x.ids.length = sn := by rw [e1, q2]
      have hirc := (hox.1.keep0 kp).rd
      have p0 : w12.cell? ⟨p, 0, none⟩ = some (.slice x.ia sn x.ic) := by rw [← hxl, cell_of_row w12 p 0 _ _ _ hrp]; rfl
      have p1 : w12.cell? ⟨p, 1, none⟩ = some (.int .i64 r.cnt) := by rw [← e2, cell_of_row w12 p 1 _ _ _ hrp]; rfl
      obtain ⟨ids, hids⟩ : ∃ ids, ids = x.ids := ⟨_, rfl⟩
      rw [← hids] at hirc
      have hil : sn = ids.length := by rw [hids, hxl]
      have HIL := Lib.hid hil
      have hcap := hirc.1
      rw [← hil] at hcap
      have hcap2 := hirc.2.1
      have HIR := Lib.hid hirc
      obtain ⟨cnt, hcnt⟩ : ∃ cnt, cnt = r.cnt := ⟨_, rfl⟩
      rw [← hcnt] at p1 q1
      have HST2 : Hid (starsOf ids = if i < B then 0 else 1) := Lib.hid (by rw [hids, e1]; exact HST.out)
      have HKN := Lib.hid ((HK.out.tr kpw11).tr kp)
      have HCN : Hid (i < B → csum (R.take (i + 1)) = csum (R.take i) + cnt) := Lib.hid (fun _ => by
        obtain ⟨hj, hj2⟩ := List.getElem?_eq_some_iff.1 HGET.out
        rw [List.take_succ_eq_append_getElem hj, csum_append, hj2, hcnt]; simp [csum])
      obtain ⟨ia, hia⟩ : ∃ ia, ia = x.ia := ⟨_, rfl⟩
      obtain ⟨ic, hic⟩ : ∃ ic, ic = x.ic := ⟨_, rfl⟩
      rw [← hia, ← hic] at p0 HIR
      rw [← hic] at hcap hcap2
      have hbn : ((sn : Int) != (sn : Int)) = false := by simp
      clear hz hrp kp kpw11 hx hox e1 e2 hxl hil hirc hids hcnt hp q2 HST HGET HRC hia hic
      go_wp2_with fail
      go_loopw [16, 72] (fun vs vj w2 => ∃ j s : Nat, j ≤ sn ∧ s ≤ j ∧ vj = .int .i64 j ∧ vs = .int .i64 s ∧ Hid (s = starsOf (ids.take j)) ∧ w2 = w12) (fun _ vj _ => sn - (intOf vj).toNat)
      case atStart => exact ⟨0, 0, Nat.zero_le _, Nat.le_refl _, rfl, rfl, Lib.hid (by simp [starsOf]), rfl⟩
      case round =>
        obtain ⟨j, s, hj, hsj, rfl, rfl, HSS, rfl⟩ := hrel
        by_cases hlj : j < sn
        · have hjl : j < ids.length := by rw [← HIL.out]; exact hlj
          obtain ⟨bi, oi, rfl, ci⟩ := HIR.out.2.2 j hjl
          have HSTEP := Lib.hid (stars_step hjl)
          by_cases hid : nth ids j = -1
          · rw [hid] at ci
            have HN : Hid (s + 1 = starsOf (ids.take (j + 1))) := Lib.hid (by rw [HSTEP.out, if_pos hid, ← HSS.out])
            clear hid hjl HSTEP
            go_wp2_with fail
            go_roundw
            case rel => exact ⟨j + 1, s + 1, hlj, by omega, by go_num, by go_num, HN, trivial⟩
            case measure => simp [intOf]; omega
          · have HN : Hid (s = starsOf (ids.take (j + 1))) := Lib.hid (by rw [HSTEP.out, if_neg hid, ← HSS.out]; rfl)
            obtain ⟨y, hy⟩ : ∃ y, y = nth ids j := ⟨_, rfl⟩
            rw [← hy] at ci hid
            have hbb : (y == -1) = false := by simpa using hid
            clear hid hjl HSTEP hy
            go_wp2_with fail
            go_roundw
            case rel => exact ⟨j + 1, s, hlj, by omega, by go_num, rfl, HN, trivial⟩
            case measure => simp [intOf]; omega
        · obtain rfl : j = sn := by omega
          have HSF : Hid (s = if i < B then 0 else 1) := Lib.hid (by
            rw [HSS.out, List.take_of_length_le (by rw [HIL.out]; exact Nat.le_refl _)]; exact HST2.out)
          by_cases hB : i < B
          · obtain rfl : s = 0 := by rw [HSF.out, if_pos hB]
            obtain rfl : b = i := by have := HB.out; omega
            have hcs2 : csum (R.take (b + 1)) = cs + cnt := by rw [HCN.out hB, HCSE.out]
            have hcs3 := (HPRE.out (b + 1) hB).2
            have hcn : cnt ≤ 80 := by omega
            have hcl : (0 : Int) ≤ cs + cnt ∧ cs + cnt ≤ 80 := by omega
            have hbb : ((b : Int) != (b : Int)) = false := by simp
            have HCS2 := Lib.hid hcs2
            have hw : IntKind.i64.wrap (cs + cnt) = cs + cnt := IntWalk.i64_in _ (by omega)
            clear hcs2 hcs3
            go_wp2_with fail
            go_roundw
            case rel => exact ⟨b + 1, b + 1, hlt, Nat.le_refl _, by go_num, by go_num, by rw [HCS2.out], Lib.hid (by omega), HKN⟩
            case measure => simp [intOf]; omega
          · obtain rfl : s = 1 := by rw [HSF.out, if_neg hB]
            have HB2 : Hid (b = min (i + 1) B) := Lib.hid (by have := HB.out; omega)
            go_wp2_with fail
            go_roundw
            case rel => exact ⟨i + 1, b, hlt, by omega, by go_num, rfl, by rw [HCSE.out], HB2, HKN⟩
            case measure => simp [intOf]; omega
    · obtain rfl : i = rl := by omega
      obtain rfl : b = B := by have := HB.out; omega
      obtain rfl : cs = (xn0 : Int) := by rw [HCSE.out, HSUM.out]
      have d1 := HK.out.cell D0.out (by simp)
      have hc := HCS.out.1
      have hc' := HCS.out.2
      have hbb : ((xn0 : Int) == (xn0 : Int)) = true := by simp
      have HTW := Lib.hid (HTR.out.keep0 HK.out)
      have hmul : IntKind.i64.wrap (((sn : Int) + 1) * (b : Int)) = ((sn : Int) + 1) * (b : Int) := by
        have h1 : (sn + 1) * b ≤ 11 * 80 := Nat.mul_le_mul (by omega) hB80
        have h2 : (((sn + 1) * b : Nat) : Int) = ((sn : Int) + 1) * (b : Int) := by push_cast; rfl
        exact IntWalk.i64_in _ (by omega)
      have hle : (i : Int) ≤ ((sn : Int) + 1) * (b : Int) := by
        have h1 := HBD.out
        have h2 : (((sn + 1) * b : Nat) : Int) = ((sn : Int) + 1) * (b : Int) := by push_cast; rfl
        omega
      go_wp2_with fail
      refine (stRecords_any HTW.out hk1).mono ?_
      rintro e w13 ⟨rfl, rfl⟩
      rw [← HRLE.out]
      go_wp2_with fail
      refine (known19_any w13).mono ?_
      rintro e w14 ⟨rfl, kp14⟩
      have HF := Lib.hid ((HK2.out.tr HK.out).tr kp14)
      clear kp14
      go_wp2_with fail
      go_ret
      exact ⟨rfl, HF.out⟩
end Go.Proofs.Ythmaobmgogmaoaa
namespace Go.Proofs.Ythmaobmgogmaoaa
open Go.RowKit Go.Shelf
set_option linter.unusedSimpArgs false
set_option linter.unusedVariables false
set_option maxRecDepth 100000

theorem kdNs (w : World) (n : Nat) : Kp [] w (w.drewN n) := ⟨rfl, rfl, rfl, Nat.le_refl _, fun _ _ _ => rfl⟩
theorem seg_snoc {R : List PR} {p i : Nat} {x : PR} (hp : p ≤ i) (h : R[i]? = some x) : seg R p (i + 1) = seg R p i ++ [x] := by
  obtain ⟨hi, rfl⟩ := List.getElem?_eq_some_iff.1 h
  rw [seg_split R hp (show i ≤ i + 1 by omega) hi]
  congr 1
  unfold seg
  rw [List.drop_take, show i + 1 - i = 1 by omega, List.drop_eq_getElem_cons hi, List.take_succ_cons, List.take_zero]
theorem seg_nil (R : List PR) (p : Nat) : seg R p p = [] := by
  unfold seg
  rw [List.drop_take, Nat.sub_self]; rfl
theorem ListOk.pre {k d : Nat} {R : List PR} {p q i : Nat} (h : ListOk k d (seg R p q)) (h1 : p ≤ i) (h2 : i ≤ q) (h3 : q ≤ R.length) : 0 ≤ csum (seg R p i) ∧ csum (seg R p i) ≤ 80 := by
  have h4 := h.sub (Nat.le_refl _) h1 h2 h3
  have h5 := csum_nonneg (fun x hx => (h4.1 x hx).2.2)
  exact ⟨by omega, h4.2⟩
set_option maxHeartbeats 1600000 in
theorem rows19_any {T k mt leaf B : Nat} {X : Nat → Prop} {ra : Option Addr} {rc : Nat} {RL : List Rc} {na : Option Addr} {nc : Nat} {NL : List Nh} (w : World) (h : TreeH T k mt leaf B X ra rc RL na nc NL w) (hk : 1 ≤ k) (hk8 : k ≤ 8) (hmt : mt ≤ 1000)
    (yd yf yt : Nat) (yka : Option Addr) (ykn ykc : Nat) (hft : yf ≤ yt) (htl : yt ≤ RL.length) (htb : yt ≤ 100000) (hok : ListOk k yd (seg (RL.map (pr k)) yf yt)) :
    Calls Try.prog 18 #[.pointer (some ⟨T, 0, none⟩), .agg #[.int .i64 (yd : Int), .int .i64 (yf : Int), .int .i64 (yt : Int), .slice yka ykn ykc]] w fun e w' => e = .returned (.int .i64 (csum (seg (RL.map (pr k)) yf yt))) ∧ Kp [] w w' := by
  obtain ⟨R, hR⟩ : ∃ R, R = RL.map (pr k) := ⟨_, rfl⟩
  rw [← hR] at hok ⊢
  have HRL : Hid (yt ≤ R.length) := Lib.hid (by rw [hR, List.length_map]; exact htl)
  have HR := Lib.hid hR
  have H := Lib.hid h
  have HOK := Lib.hid hok
  clear h hR hok htl
  go_enter Try.func18, Try.ntmps18
  go_upto_region 2 with (fail)
  obtain ⟨p, hp⟩ : ∃ p, p = w.heap.size := ⟨_, rfl⟩
  obtain ⟨w1, hw1⟩ : ∃ w1, w1 = w.alloc (Obj.cells #[.int .i64 (yd : Int), .int .i64 (yf : Int), .int .i64 (yt : Int), .slice yka ykn ykc] 40) := ⟨_, rfl⟩
  have k1 : Kp [] w w1 := by rw [hw1]; exact (Kp.refl [] w).alloc _
  have hp1 : w1.heap[p]? = some (.cells #[.int .i64 (yd : Int), .int .i64 (yf : Int), .int .i64 (yt : Int), .slice yka ykn ykc] 40) := by rw [hw1]; exact heap_alloc_at hp
  rw [← hw1, ← hp]
  have HP := Lib.hid hp1
  have K1 := Lib.hid k1
  have c1 : w1.cell? ⟨p, 1, none⟩ = some (.int .i64 (yf : Int)) := by rw [cell_of_row w1 p 1 _ _ _ hp1]; rfl
  clear hw1 hp1 k1 hp
  go_wp2_with fail
  go_loopw [5, 6] (fun vs vi wr => ∃ i : Nat, yf ≤ i ∧ i ≤ yt ∧ vi = .int .i64 i ∧ vs = .int .i64 (csum (seg R yf i)) ∧ Hid (Kp [] w1 wr)) (fun _ vi _ => yt - (intOf vi).toNat)
  case atStart => exact ⟨yf, Nat.le_refl _, hft, rfl, by rw [seg_nil]; rfl, Lib.hid (Kp.refl _ _)⟩
  case round =>
    obtain ⟨i, hi1, hi2, rfl, rfl, HK⟩ := hrel
    obtain ⟨wo, rfl⟩ : ∃ wo : World, wo = wr := ⟨_, rfl⟩
    obtain ⟨cs, hcs⟩ : ∃ cs, cs = csum (seg R yf i) := ⟨_, rfl⟩
    rw [← hcs]
    have hcsb : 0 ≤ cs ∧ cs ≤ 80 := by rw [hcs]; exact HOK.out.pre hi1 hi2 HRL.out
    have HCS := Lib.hid hcs
    have c2 : wo.cell? ⟨p, 2, none⟩ = some (.int .i64 (yt : Int)) := by rw [cell_of_row wo p 2 _ _ _ (HK.out.get HP.out (by simp))]; rfl
    clear hcs c1
    by_cases hlt : i < yt
    · obtain ⟨r, hr⟩ : ∃ r, R[i]? = some r := ⟨_, List.getElem?_eq_getElem (by have := HRL.out; omega)⟩
      have HNX : Hid (csum (seg R yf (i + 1)) = cs + r.cnt) := Lib.hid (by rw [seg_snoc hi1 hr, csum_append, ← HCS.out]; simp [csum])
      have hcn := HOK.out.pre (i := i + 1) (by omega) hlt HRL.out
      rw [HNX.out] at hcn
      have HRC := Lib.hid (stRecord_at wo (H.out.keep0 (K1.out.tr HK.out)) hk hk8 hmt i (by rw [← HR.out]; exact hr))
      clear hr
      go_wp2_with fail
      refine HRC.out.mono ?_
      rintro e w11 ⟨x, rfl, hx, hox, kpw11⟩
      unfold raV
      go_upto_region 6 with (refine wpList_store_row rfl 34 _ _ rfl w11.heap.size #[.slice x.ia x.ids.length x.ic, .int .i64 x.cnt, .slice x.sa x.ms.length x.sc, .slice x.la x.ms.length x.lc, .slice x.ga x.ms.length x.gc] rfl rfl 34 _ (heap_alloc_at rfl) (by kernel_rfl) rfl (by simp [Value.oneCell']) ?_)
      obtain ⟨q, hq⟩ : ∃ q, q = w11.heap.size := ⟨_, rfl⟩
      generalize hz : (w11.alloc (Obj.cells _ _)).setRow _ _ = w12
      rw [← hq] at hz ⊢
      have hrp : w12.heap[q]? = some (.cells #[.slice x.ia x.ids.length x.ic, .int .i64 x.cnt, .slice x.sa x.ms.length x.sc, .slice x.la x.ms.length x.lc, .slice x.ga x.ms.length x.gc] 34) := by rw [← hz]; exact setRow_heap _ q _ _ _ _ (heap_alloc_at hq)
      have kp : Kp [] w11 w12 := by rw [← hz]; exact ((Kp.refl [] w11).alloc _).setRowF _ _ (.inr (by omega))
      have e2 : x.cnt = r.cnt := by rw [← hx]; rfl
      have p1 : w12.cell? ⟨q, 1, none⟩ = some (.int .i64 r.cnt) := by rw [← e2, cell_of_row w12 q 1 _ _ _ hrp]; rfl
      obtain ⟨cnt, hcnt⟩ : ∃ cnt, cnt = r.cnt := ⟨_, rfl⟩
      rw [← hcnt] at p1 hcn HNX
      have HKN := Lib.hid ((HK.out.tr kpw11).tr kp)
      clear hz hrp kp kpw11 hx hox e2 hcnt hq HRC c2
      go_wp2_with fail
      go_roundw
      case rel => exact ⟨i + 1, by omega, hlt, by go_num, by rw [HNX.out], HKN⟩
      case measure => simp [intOf]; omega
    · obtain rfl : i = yt := by omega
      go_wp2_with fail
      go_ret
      exact ⟨by rw [HCS.out]; rfl, K1.out.tr HK.out⟩
end Go.Proofs.Ythmaobmgogmaoaa
