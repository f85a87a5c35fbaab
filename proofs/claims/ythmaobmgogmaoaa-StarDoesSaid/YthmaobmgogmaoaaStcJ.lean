/-
  The document's star-trees: the tree of rows.
-/
import Derived.Test.YthmaobmgogmaoaaStcI
import Derived.Test.YthmaobmgogmaoaaStcR
namespace Go.Proofs.Ythmaobmgogmaoaa
open Go.RowKit Go.Shelf
set_option linter.unusedSimpArgs false
set_option linter.unusedVariables false
set_option maxRecDepth 100000

theorem RTree.setRecs {T k mt leaf B : Nat} {X : Nat → Prop} {ra ra' : Option Addr} {rc rc' : Nat} {RL YS : List Ra} {na : Option Addr} {nc : Nat} {NL : List Nh} {w w3 : World} (h : RTree T k mt leaf B X ra rc RL na nc NL w) (ho : OwnS racells 5 w B 34 ra' rc' YS) (hg : ∀ z ∈ YS, GoodA k mt B w z)
    (hk : Kp [T] w w3) (hT : w3.heap[T]? = some (.cells (rtC k leaf ra' YS.length rc' na NL.length nc) 53 (0, 0))) : RTree T k mt leaf B X ra' rc' YS na nc NL w3 := by
  have hne := rNe
  have hni := rNi
  have hkeep : ∀ {α : Type} {f : α → List Value} {sz : Nat} {e : TypeId} {ad : Option Addr} {cap : Nat} {l : List α}, OwnS f sz w B e ad cap l → e ≠ 53 → OwnS f sz w3 B e ad cap l := fun h1 h2 =>
    h1.keep hk (fun b hb hb2 => by simp at hb2; subst hb2; exact own_ne h1 h.blk h2 hb)
  exact ⟨hT, hkeep ho hne.1, hkeep h.nodes hne.2.1, fun x hx => (hg x hx).keepT hk (fun b hb => by simp at hb; subst hb; exact ⟨_, _, _, h.blk, hni.2.2.2.1, hni.2.2.2.2⟩), fun y hy => ⟨(h.kids y hy).1, hkeep (h.kids y hy).2.1 hne.2.2.1, (h.kids y hy).2.2⟩, h.base⟩
/-- A list of records that the call has made. -/
def SVS.lst {S : List Nat} (B : Nat) (hS : ∀ x ∈ S, x < B) (k mt : Nat) (P : List PR) : SVS S :=
  ⟨fun v u => ∃ (oa : Option Addr) (oc : Nat) (YS : List Ra), v = .slice oa YS.length oc ∧ OwnS racells 5 u B 34 oa oc YS ∧ (∀ z ∈ YS, GoodA k mt B u z) ∧ YS.map Ra.pr = P,
   fun _ _ _ ⟨oa, oc, YS, h1, h2, h3, h4⟩ hk => ⟨oa, oc, YS, h1, h2.keep hk (fun b hb hx => by have := (h2.ob_ge b hb).1; have := hS b hx; omega), fun z hz => ⟨(h3 z hz).1.keep hk (fun b hb => .inl (hS b hb)), (h3 z hz).2⟩, h4⟩⟩
/-- What Of tells. -/
def RTreePost (S M : List (List Int)) (leaf : Nat) (w : World) (e : Ending) (w' : World) : Prop :=
  Kp [] w w' ∧ ∃ T, e = .returned (.pointer (some ⟨T, 0, none⟩)) ∧ ∃ ra rc RL na nc NL, RTree T S.length M.length leaf w.heap.size (fun _ => False) ra rc RL na nc NL w' ∧ (⟨RL.map Ra.pr, NL.map pn⟩ : St) = ofP S M leaf

set_option maxHeartbeats 6400000 in
theorem r19Of_any (sa : Option Addr) (sn sc : Nat) (S : List Ih) (hS : sn = S.length) (ma : Option Addr) (mn mc : Nat) (D : List Ih) (hD : mn = D.length) (leaf : Nat) (hlf : 1 ≤ leaf ∧ leaf ≤ 1000000)
    (n : Nat) (hn : (rowP (lis S) 0).length = n) (h1 : ∀ t, t < sn → (rowP (lis S) t).length = n) (h2 : ∀ t, t < mn → (rowP (lis D) t).length = n) (hb : 1 ≤ sn ∧ sn ≤ 8 ∧ mn ≤ 10 ∧ n ≤ 80) (w : World) (hs : RdI w sa sc S) (hd : RdI w ma mc D) :
    Calls Try.prog 21 #[.slice sa sn sc, .slice ma mn mc, .int .i64 (leaf : Int)] w (RTreePost (lis S) (lis D) leaf w) := by
  obtain ⟨hb1, hb2, hb3, hb4⟩ := hb
  have HSN := Lib.hid hS
  have HDN := Lib.hid hD
  have HSR := Lib.hid hs
  have HDR := Lib.hid hd
  have HLF := Lib.hid hlf
  have hsc : sn ≤ sc := by rw [hS]; exact hs.1.1
  have hsc2 : sc ≤ 9223372036854775807 := hs.1.2.1
  obtain ⟨b0, o0, ra0, rn0, rc0, hsa, hc0, hn0, hr0⟩ := hs.at' 0 (by rw [← hS]; omega)
  subst hsa
  rw [hn] at hn0
  subst hn0
  have H1 := Lib.hid h1
  have H2 := Lib.hid h2
  have HC0 : Hid (∀ W, Kp [] w W → W.cell? ⟨b0, o0 + 0, none⟩ = some (.slice ra0 rn0 rc0) ∧ W.cell? ⟨b0, o0, none⟩ = some (.slice ra0 rn0 rc0)) := Lib.hid (fun W hW => ⟨hW.cell hc0 (by simp), hW.cell hc0 (by simp)⟩)
  obtain ⟨Rw, hRw⟩ : ∃ Rw, Rw = rowsP (lis S) (lis D) := ⟨_, rfl⟩
  have HRW := Lib.hid hRw
  have HRL : Hid (Rw.length = rn0) := Lib.hid (by rw [hRw]; unfold rowsP; rw [List.length_map, List.length_range]; exact hn)
  have HST : Hid (∀ i, i < rn0 → Rw.take (i + 1) = Rw.take i ++ [rowPR (lis S) (lis D) i]) := Lib.hid (fun i hi => by rw [hRw]; exact rowsP_take _ _ (by rw [← hn] at hi; exact hi))
  have HOF : Hid (ofP (lis S) (lis D) leaf = growP leaf sn sn false 0 (togP Rw).length ⟨togP Rw, []⟩) := Lib.hid (by
    unfold ofP; rw [hRw, hS]; simp [lis])
  have HBD := Lib.hid (ofP_bound (lis S) (lis D) leaf (by rw [lis, List.length_map, ← hS]; exact hb2) (by
    have : ((lis S).getD 0 []).length = rn0 := hn
    omega))
  have HLL : Hid ((lis S).length = sn ∧ (lis D).length = mn) := Lib.hid ⟨by rw [lis, List.length_map, hS], by rw [lis, List.length_map, hD]⟩
  have HRPR : Hid (∀ i, (rowPR (lis S) (lis D) i).ids.length = sn ∧ (rowPR (lis S) (lis D) i).ms.length = mn) := Lib.hid (fun i => ⟨by show ((lis S).map _).length = sn; rw [List.length_map, lis, List.length_map, hS], by show ((lis D).map _).length = mn; rw [List.length_map, lis, List.length_map, hD]⟩)
  clear hS hD hs hd h1 h2 hc0 hr0 hRw hn hlf
  go_enter Try.func21, Try.ntmps21
  go_upto_region 2 with (fail)
  obtain ⟨T, hT⟩ : ∃ T, T = w.heap.size := ⟨_, rfl⟩
  rw [← hT]
  obtain ⟨w1, hw1⟩ : ∃ w1, w1 = w.alloc (Obj.cells #[.int .i64 (sn : Int), .int .i64 (leaf : Int), .slice none 0 0, .slice none 0 0] 53) := ⟨_, rfl⟩
  rw [← hw1]
  have HTR1 : Hid (RTree T sn mn leaf w.heap.size (fun _ => False) none 0 [] none 0 [] w1) := Lib.hid (by
    refine ⟨by rw [hw1]; exact heap_alloc_at hT, OwnS.nil _ _ _ _ _, OwnS.nil _ _ _ _ _, by simp, by simp, by omega⟩)
  have K1 : Hid (Kp [] w w1) := Lib.hid (by rw [hw1]; exact (Kp.refl [] w).alloc _)
  have HTB : Hid (w.heap.size ≤ T) := Lib.hid (by omega)
  clear hw1 hT
  go_wp2_with fail
  go_loopw [8] (fun vi wr => ∃ (i : Nat) (ra : Option Addr) (rc : Nat) (RL : List Ra), i ≤ rn0 ∧ vi = .int .i64 i ∧ RL.length ≤ i ∧ Hid (RTree T sn mn leaf w.heap.size (fun _ => False) ra rc RL none 0 [] wr) ∧ Hid (RL.map Ra.pr = togP (Rw.take i)) ∧ Hid (Kp [] w wr)) (fun vi _ => rn0 - (intOf vi).toNat)
  case atStart => exact ⟨0, none, 0, [], Nat.zero_le _, rfl, Nat.le_refl _, HTR1, Lib.hid rfl, K1⟩
  case round =>
    obtain ⟨i, ra, rc, RL, hi, rfl, hrl, HT, HP, HK⟩ := hrel
    obtain ⟨wo, rfl⟩ : ∃ wo : World, wo = wr := ⟨_, rfl⟩
    obtain ⟨c0, c0b⟩ := HC0.out wo HK.out
    obtain ⟨-, -, c2, -, -, -⟩ := HT.out.cell
    obtain ⟨yn, hyn⟩ : ∃ yn, yn = RL.length := ⟨_, rfl⟩
    have HYN := Lib.hid hyn
    rw [← hyn] at c2 hrl
    clear hyn
    by_cases hlt : i < rn0
    · have HROW : Hid (∀ W, Kp [] wo W → Calls Try.prog 42 #[.slice (some ⟨b0, o0, none⟩) sn sc, .slice ma mn mc, .int .i64 (i : Int)] W fun e w' => ∃ z : Ra, e = .returned (raV z) ∧ z.pr = rowPR (lis S) (lis D) i ∧ RaOwn w' W.heap.size z ∧ Kp [] W w') := Lib.hid (fun W hW => r19Row_any (some ⟨b0, o0, none⟩) sn sc S HSN.out ma mn mc D HDN.out i (fun t ht => by rw [H1.out t ht]; exact hlt) (fun t ht => by rw [H2.out t ht]; exact hlt) (by omega) W (HSR.out.keep0 (HK.out.tr hW)) (HDR.out.keep0 (HK.out.tr hW)))
      have HWS := Lib.hid HK.out.size
      have HPUT : Hid (∀ W z, Kp [] wo W → z.pr = rowPR (lis S) (lis D) i → RaOwn W w.heap.size z → Calls Try.prog 32 #[.slice ra yn rc, raV z] W fun e w' => ∃ oa oc YS, e = .returned (.slice oa YS.length oc) ∧ OwnS racells 5 w' w.heap.size 34 oa oc YS ∧ (∀ z ∈ YS, GoodA sn mn w.heap.size w' z) ∧ YS.map Ra.pr = putP (RL.map Ra.pr) (rowPR (lis S) (lis D) i) ∧ Kp [] W w') := Lib.hid (fun W z hW hz ho => by
        have ht := HT.out.keep0 hW
        have hzl : z.ids.length = sn ∧ z.ms.length = mn := by
          have h3 := HRPR.out i
          rw [← hz] at h3
          exact h3
        have := r19Put_anyG (fun z => GoodA sn mn w.heap.size W z) ra yn rc RL HYN.out (by omega) z sn mn (by omega) (by omega) (fun x hx => (ht.good x hx).2) hzl W (ht.recs.rd ralies) (fun x hx => (ht.good x hx).1.rd) ho.rd ht.good ⟨ho, hzl⟩
        refine this.mono ?_
        rintro e w' ⟨oa, oc, YS, h1, h2, h3, h4, h5, h6⟩
        have hsz : w.heap.size ≤ W.heap.size := Nat.le_trans HWS.out hW.size
        exact ⟨oa, oc, YS, h1, h2.mono hsz, fun z hz => (h4 z hz).elim (fun g => g.keep0 h6) (fun g => ⟨g.mono hsz, (h3 z hz).2⟩), by rw [h5, hz], h6⟩)
      have HC2 : Hid (∀ W, Kp [] wo W → W.cell? ⟨T, 2, none⟩ = some (.slice ra yn rc)) := Lib.hid (fun W hW => hW.cell c2 (by simp))
      have hS0 : ∀ x ∈ ([] : List Nat), x < w.heap.size := by simp
      have hyb : yn ≤ 80 := by omega
      go_upto_region 5 with (fail)
      refine wp_region_GS (by kernel_rfl) [] [.val (.pointer (some ⟨T, 0, none⟩)), .val (.pointer (some ⟨T, 0, none⟩)), .val (.pointer (some ⟨T, 0, none⟩)), .val (.pointer (some ⟨T, 2, none⟩)), .val (.slice ra yn rc), .val (.slice (some ⟨b0, o0, none⟩) sn sc), .val (.slice ma mn mc), .val (.int .i64 (i : Int)), .mkd w.heap.size hS0 (rowPR (lis S) (lis D) i), .lst w.heap.size hS0 sn mn (putP (RL.map Ra.pr) (rowPR (lis S) (lis D) i)), .val (.pointer (some ⟨T, 0, none⟩)), .val (.pointer (some ⟨T, 2, none⟩))] [[(7, none)], [(7, none)], [(23, some 1)], [(24, some 2)], [(25, some 3)], [(0, none)], [(1, none)], [(8, none)], [(27, some 5), (28, some 6), (29, some 7)], [(26, some 4), (30, some 8)], [(22, some 0)], [(32, some 10)]] [] (fun _ _ => True) 12 rfl (by kernel_rfl) (by kernel_rfl) (by kernel_rfl) (by kernel_rfl) (by kernel_rfl) (by simp) (fun _ _ _ h _ => h) trivial ?_ ?_
      · refine (ObG.free rfl ?o0 (ObG.free rfl ?o1 (ObG.free rfl ?o2 (ObG.free rfl ?o3 (ObG.free rfl ?o4 (ObG.free rfl ?o5 (ObG.free rfl ?o6 (ObG.free rfl ?o7 (ObG.free rfl ?o8 (ObG.free rfl ?o9 (ObG.free rfl ?o10 (ObG.free rfl ?o11 trivial))))))))))))
        case o0 => intro aR wR mR hR hI; replace hR := hR.undrew; intro (h7 : aR.tmps[7]? = some (.pointer (some ⟨T, 0, none⟩))); exact exec_val (c := .pointer (some ⟨T, 0, none⟩)) (wanted_none rfl) (by go_simp) rfl
        case o1 => intro aR wR mR hR hI; replace hR := hR.undrew; intro (h7 : aR.tmps[7]? = some (.pointer (some ⟨T, 0, none⟩))); exact exec_val (c := .pointer (some ⟨T, 0, none⟩)) (wanted_none rfl) (by go_simp) rfl
        case o2 => intro aR wR mR hR hI; replace hR := hR.undrew; intro v23 h23 e23; replace e23 : v23 = .pointer (some ⟨T, 0, none⟩) := e23; subst e23; exact exec_val (c := .pointer (some ⟨T, 0, none⟩)) (wanted_none rfl) (by go_simp) rfl
        case o3 => intro aR wR mR hR hI; replace hR := hR.undrew; intro v24 h24 e24; replace e24 : v24 = .pointer (some ⟨T, 0, none⟩) := e24; subst e24; exact exec_val (c := .pointer (some ⟨T, 2, none⟩)) (wanted_none rfl) (by go_simp) rfl
        case o4 => intro aR wR mR hR hI; replace hR := hR.undrew; intro v25 h25 e25; replace e25 : v25 = .pointer (some ⟨T, 2, none⟩) := e25; subst e25; (have h1 := HC2.out wR hR); exact exec_val (c := .slice ra yn rc) (wanted_none rfl) (by go_simp) rfl
        case o5 => intro aR wR mR hR hI; replace hR := hR.undrew; intro (h0 : aR.tmps[0]? = some (.slice (some ⟨b0, o0, none⟩) sn sc)); exact exec_val (c := .slice (some ⟨b0, o0, none⟩) sn sc) (wanted_none rfl) (by go_simp) rfl
        case o6 => intro aR wR mR hR hI; replace hR := hR.undrew; intro (h1 : aR.tmps[1]? = some (.slice ma mn mc)); exact exec_val (c := .slice ma mn mc) (wanted_none rfl) (by go_simp) rfl
        case o7 => intro aR wR mR hR hI; replace hR := hR.undrew; intro (h8 : aR.tmps[8]? = some (.int .i64 (i : Int))); exact exec_val (c := .int .i64 (i : Int)) (wanted_none rfl) (by go_simp) rfl
        case o8 => intro aR wR mR hR hI; replace hR := hR.undrew; intro v27 h27 e27; replace e27 : v27 = .slice (some ⟨b0, o0, none⟩) sn sc := e27; subst e27; intro v28 h28 e28; replace e28 : v28 = .slice ma mn mc := e28; subst e28; intro v29 h29 e29; replace e29 : v29 = .int .i64 (i : Int) := e29; subst e29; refine exec_call (wanted_none rfl) (by go_simp; exact ⟨rfl, rfl⟩) ?_; refine (HROW.out wR hR).mono ?_; rintro e7 w8 ⟨z, rfl, hz, ho, kp8⟩; exact ⟨_, rfl, ⟨z, rfl, hz, ho.mono (Nat.le_trans HWS.out hR.size)⟩, kp8⟩
        case o9 => intro aR wR mR hR hI; replace hR := hR.undrew; intro v26 h26 e26; replace e26 : v26 = .slice ra yn rc := e26; subst e26; intro v30 h30 e30; refine exec_call (wanted_none rfl) (by go_simp; exact ⟨rfl, rfl⟩) ?_; obtain ⟨z, rfl, hz, ho⟩ := e30; refine (HPUT.out wR z hR hz ho).mono ?_; rintro e7 w8 ⟨oa, oc, YS, rfl, h2, h3, h4, kp8⟩; exact ⟨_, rfl, ⟨oa, oc, YS, rfl, h2, h3, h4⟩, kp8⟩
        case o10 => intro aR wR mR hR hI; replace hR := hR.undrew; intro v22 h22 e22; replace e22 : v22 = .pointer (some ⟨T, 0, none⟩) := e22; subst e22; exact exec_val (c := .pointer (some ⟨T, 0, none⟩)) (wanted_none rfl) (by go_simp) rfl
        case o11 => intro aR wR mR hR hI; replace hR := hR.undrew; intro v32 h32 e32; replace e32 : v32 = .pointer (some ⟨T, 0, none⟩) := e32; subst e32; exact exec_val (c := .pointer (some ⟨T, 2, none⟩)) (wanted_none rfl) (by go_simp) rfl
      · intro vs wR hR hI hV
        obtain ⟨e0, e1, e2, e3, e4, e5, e6, e7, e8, e9, e10, e11, -⟩ := hV
        replace e0 : vs 0 = .pointer (some ⟨T, 0, none⟩) := e0
        replace e1 : vs 1 = .pointer (some ⟨T, 0, none⟩) := e1
        replace e2 : vs 2 = .pointer (some ⟨T, 0, none⟩) := e2
        replace e3 : vs 3 = .pointer (some ⟨T, 2, none⟩) := e3
        replace e4 : vs 4 = .slice ra yn rc := e4
        replace e5 : vs 5 = .slice (some ⟨b0, o0, none⟩) sn sc := e5
        replace e6 : vs 6 = .slice ma mn mc := e6
        replace e7 : vs 7 = .int .i64 (i : Int) := e7
        replace e10 : vs 10 = .pointer (some ⟨T, 0, none⟩) := e10
        replace e11 : vs 11 = .pointer (some ⟨T, 2, none⟩) := e11
        simp only [putAll, List.take_succ_cons, List.take_zero, List.drop_succ_cons, List.drop_zero, e0, e1, e2, e3, e4, e5, e6, e7, e10, e11, Nat.reduceAdd, Nat.zero_add]
        clear e0 e1 e2 e3 e4 e5 e6 e7 e10 e11
        try simp only [List.setIfInBounds_toArray, List.set_cons_succ, List.set_cons_zero]
        simp only [Nat.reduceAdd, Nat.zero_add] at e9
        obtain ⟨oa, oc, YS, hv9, hown, hgd, hpr⟩ := e9
        rw [hv9]
        have HT2 := Lib.hid (HT.out.keep0 hR)
        have cS := hR.cell c2 (by simp)
        have fS := frozen_of_row wR T 2 _ _ HT2.out.blk
        have hyl : YS.length ≤ i + 1 := by
          have h1 := congrArg List.length hpr
          have h2 := put_len (RL.map Ra.pr) (rowPR (lis S) (lis D) i)
          rw [List.length_map] at h1 h2
          have h3 := HYN.out
          omega
        obtain ⟨y2, hy2⟩ : ∃ y2, y2 = YS.length := ⟨_, rfl⟩
        have HY2 := Lib.hid hy2
        have kz : Kp [T] wR (wR.setCell ⟨T, 2, none⟩ (.slice oa YS.length oc)) := (Kp.refl [T] wR).setCell _ _ (by simp)
        have HT3 : Hid (RTree T sn mn leaf w.heap.size (fun _ => False) oa oc YS none 0 [] (wR.setCell ⟨T, 2, none⟩ (.slice oa YS.length oc))) := Lib.hid (HT2.out.setRecs hown hgd kz (by rw [heap_setCell_same wR T 2 _ _ _ HT2.out.blk]; rfl))
        have HP3 : Hid (YS.map Ra.pr = togP (Rw.take (i + 1))) := Lib.hid (by rw [HST.out i hlt, togP_snoc, hpr, HP.out])
        have HK3 : Hid (Kp [] w (wR.setCell ⟨T, 2, none⟩ (.slice oa YS.length oc))) := Lib.hid ((HK.out.tr hR).trans kz (by simp) (fun b hb => by simp at hb; subst hb; exact .inr HTB.out))
        generalize vs 8 = v8
        clear e8 hv9 hown hgd hpr kz hI
        rw [← hy2] at hyl HT3 HK3 ⊢
        clear hy2
        go_wp2_with fail
        go_roundw
        case rel => exact ⟨i + 1, oa, oc, YS, hlt, by go_num, by rw [← HY2.out]; exact hyl, HT3, HP3, HK3⟩
        case measure => simp [intOf]; omega
    · obtain rfl : rn0 = i := by omega
      have HP2 : Hid (RL.map Ra.pr = togP Rw) := Lib.hid (by rw [HP.out, List.take_of_length_le (by rw [HRL.out]; exact Nat.le_refl _)])
      have HGR := Lib.hid (r19Grow_any sn mn leaf w.heap.size hb2 (by omega) HLF.out.1 HLF.out.2 sn)
      have HFB := Lib.hid HT.out.frLt
      have HG2 : Hid (growP leaf sn sn false 0 yn ⟨RL.map Ra.pr, ([] : List Nh).map pn⟩ = ofP (lis S) (lis D) leaf) := Lib.hid (by
        rw [HOF.out, ← HP2.out, List.length_map, HYN.out]; rfl)
      have hgc := HGR.out false 0 0 yn T (fun _ => False) ra rc RL none 0 [] wo (by omega) (Nat.zero_le _) (by rw [HYN.out]; exact Nat.le_refl _) HT.out (by simp) (by rw [HG2.out]; exact HBD.out.1) (by rw [HG2.out]; exact HBD.out.2)
      have HGC := Lib.hid hgc
      clear hgc
      go_wp2_with fail
      refine HGC.out.mono ?_
      rintro _ w7 ⟨rfl, hin⟩
      rw [HG2.out] at hin
      have HIN := Lib.hid hin
      clear hin HGC
      go_wp2_with fail
      go_ret
      obtain ⟨ra7, rc7, RL7, na7, nc7, NL7, ht7, hS7, hfr7, hk7⟩ := HIN.out
      refine ⟨HK.out.trans hk7 (by simp) (fun b hb => .inr (HFB.out b hb).1), T, rfl, ra7, rc7, RL7, na7, nc7, NL7, ?_, hS7.symm⟩
      rw [HLL.out.1, HLL.out.2]
      exact ht7
end Go.Proofs.Ythmaobmgogmaoaa
