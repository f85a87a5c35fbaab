/-
  Questions: the document's Great; what the laws take.
-/
import Derived.Test.YthmaobmgogmaoaaStbN
namespace Go.Proofs.Ythmaobmgogmaoaa
open Go.RowKit Go.Shelf
set_option linter.unusedSimpArgs false
set_option linter.unusedVariables false
set_option maxRecDepth 100000

def cntM (M : Nat) (L : List Nat) : List Int := (List.range M).map fun j => (L.count j : Int)
theorem cntM_len (M : Nat) (L : List Nat) : (cntM M L).length = M := by simp [cntM]
theorem cntM_nth {M j : Nat} (L : List Nat) (h : j < M) : nth (cntM M L) j = (L.count j : Int) := by simp [cntM, nth, h]
theorem cntM_nil (M : Nat) : cntM M [] = List.replicate M 0 := by
  refine List.ext_getElem (by simp [cntM]) fun i h1 h2 => ?_
  simp [cntM]
theorem cntM_set {M c : Nat} (L : List Nat) (h : c < M) : (cntM M L).set c ((L.count c : Int) + 1) = cntM M (L ++ [c]) := by
  refine List.ext_getElem (by simp [cntM]) fun i h1 h2 => ?_
  rw [List.length_set, cntM_len] at h1
  rw [List.getElem_set]
  by_cases e : c = i
  · subst e
    rw [if_pos rfl]
    simp [cntM, List.count_append]
  · rw [if_neg e]
    have e2 : (c == i) = false := by simpa using e
    simp only [cntM, List.getElem_map, List.getElem_range, List.count_append, List.count_singleton, e2]
    simp
def longF (n : Nat) (l : List Bool) : Bool := decide (n < l.length)
def great20 (may : List (List Bool)) (bn : Nat) : Bool := may.any (longF 100) || (decide (10 < may.length) || decide (10 < bn))
theorem lisF_get (S : List Bh) {j : Nat} (h : j < S.length) : (lisF S)[j]? = some (rowF (lisF S) j) := by
  rw [rowF_lis S j h]; simp [lisF, h]
theorem r20Great_any (ma : Option Addr) (mn mc : Nat) (MF : List Bh) (hM : mn = MF.length) (ba : Option Addr) (bn bc : Nat) (w : World) (hm : RdM w ma mc MF) :
    Calls Try.prog 27 #[.slice ma mn mc, .slice ba bn bc] w fun e w' => e = .returned (.bool (great20 (lisF MF) bn)) ∧ w' = w := by
  have HM := Lib.hid hm
  have HMN := Lib.hid hM
  have hc1 : mn ≤ mc := by rw [hM]; exact hm.1.1
  have hc2 := hm.1.2.1
  have HV : Hid (great20 (lisF MF) bn = ((lisF MF).any (longF 100) || (decide (10 < mn) || decide (10 < bn)))) := Lib.hid (by
    unfold great20; rw [hM]; simp [lisF])
  clear hm hM
  generalize great20 (lisF MF) bn = v at *
  go_enter Try.func27, Try.ntmps27
  go_wp2_with fail
  go_loopw [5] (fun vj wr => ∃ j : Nat, j ≤ mn ∧ vj = .int .i64 j ∧ Hid (((lisF MF).take j).any (longF 100) = false) ∧ wr = w) (fun vj _ => mn - (intOf vj).toNat)
  case atStart => exact ⟨0, Nat.zero_le _, rfl, Lib.hid (by simp), rfl⟩
  case round =>
    obtain ⟨j, hj, rfl, HA, rfl⟩ := hrel
    by_cases hlt : j < mn
    · have hjS : j < MF.length := by rw [← HMN.out]; exact hlt
      obtain ⟨b', off', xa, xn, xc, rfl, d0, hxn, hxr⟩ := HM.out.at' j hjS
      have HG := Lib.hid (lisF_get MF hjS)
      have hxc : xn ≤ xc := by rw [hxn]; exact hxr.1
      have hxc2 := hxr.2.1
      have HX : Hid (longF 100 (rowF (lisF MF) j) = decide (100 < xn)) := Lib.hid (by unfold longF; rw [← hxn])
      clear hxn hxr hjS
      by_cases h1 : (100 : Int) < (xn : Int)
      · have HF : Hid (v = true) := Lib.hid (by rw [HV.out, any_hit HG.out (by rw [HX.out]; exact decide_eq_true (by omega))]; rfl)
        go_wp2_with fail
        go_ret
        exact ⟨by rw [HF.out]; rfl, rfl⟩
      · have HN := Lib.hid (any_step HG.out HA.out (by rw [HX.out]; exact decide_eq_false (by omega)))
        go_wp2_with fail
        go_roundw
        case rel => exact ⟨j + 1, hlt, by go_num, HN, trivial⟩
        case measure => simp [intOf]; omega
    · obtain rfl : j = mn := by omega
      have HV3 : Hid (v = (decide (10 < j) || decide (10 < bn))) := Lib.hid (by
        have := HA.out
        rw [List.take_of_length_le (by rw [HMN.out]; simp [lisF])] at this
        rw [HV.out, this]; rfl)
      by_cases h1 : (10 : Int) < (j : Int)
      · have HF : Hid (v = true) := Lib.hid (by rw [HV3.out, decide_eq_true (by omega)]; rfl)
        go_wp2_with fail
        go_ret
        exact ⟨by rw [HF.out]; rfl, rfl⟩
      · by_cases h2 : (10 : Int) < (bn : Int)
        · have HF : Hid (v = true) := Lib.hid (by rw [HV3.out, decide_eq_true (p := 10 < bn) (by omega)]; simp)
          go_wp2_with fail
          go_ret
          exact ⟨by rw [HF.out]; rfl, rfl⟩
        · have HF : Hid (v = false) := Lib.hid (by rw [HV3.out, decide_eq_false (by omega), decide_eq_false (by omega)]; rfl)
          go_wp2_with fail
          go_ret
          exact ⟨by rw [HF.out]; rfl, rfl⟩

theorem ralies : Lies racells 5 := ⟨fun _ => rfl, fun x v hv => by simp [racells] at hv; rcases hv with rfl | rfl | rfl | rfl | rfl <;> rfl, by omega⟩
theorem infoRecA : (Try.prog.info? 34).map (fun i => (i.zero, i.size, i.bytes)) = some (some (.agg #[.slice none 0 0, .int .i64 0, .slice none 0 0, .slice none 0 0, .slice none 0 0]), 5, 104) := by kernel_rfl
theorem RaOwn.keep {w w' : World} {B : Nat} {x : Ra} (h : RaOwn w B x) {S : List Nat} (k : Kp S w w') (hS : ∀ b ∈ S, b < B ∨ ∃ cs fr, w.heap[b]? = some (.cells cs 34 fr)) : RaOwn w' B x := by
  have hne : ∀ {e : TypeId} {ad : Option Addr} {cap : Nat} {l : List Int}, Own w B e .i64 ad cap l → e ≠ 34 → ∀ b, b ∈ ob ad cap → b ∉ S := fun ho hn b hb hb2 => by
    rcases hS b hb2 with h1 | ⟨cs, fr, h1⟩
    · have := (ho.ob_ge b hb).1; omega
    · exact ownI_ne ho h1 hn hb
  exact ⟨h.1.keep k (hne h.1 (by decide)), h.2.1.keep k (hne h.2.1 (by decide)), h.2.2.1.keep k (hne h.2.2.1 (by decide)), h.2.2.2.keep k (hne h.2.2.2 (by decide))⟩
theorem RaOwn.keep0 {w w' : World} {B : Nat} {x : Ra} (h : RaOwn w B x) (k : Kp [] w w') : RaOwn w' B x := h.keep k (by simp)
theorem RaOwn.mono {w : World} {B B' : Nat} {x : Ra} (h : RaOwn w B x) (hb : B' ≤ B) : RaOwn w B' x := ⟨h.1.mono hb, h.2.1.mono hb, h.2.2.1.mono hb, h.2.2.2.mono hb⟩
/-- Records that have been taken. -/
structure TakenI (B : Nat) (oa : Option Addr) (oc : Nat) (XS : List Ra) (w : World) : Prop where
  own : OwnS racells 5 w B 34 oa oc XS
  rec' : ∀ x ∈ XS, RaOwn w B x
theorem own_rows {α : Type} {f : α → List Value} {sz : Nat} {w : World} {B : Nat} {e : TypeId} {ad : Option Addr} {cap : Nat} {l : List α} (h : OwnS f sz w B e ad cap l) : ∀ b ∈ ob ad cap, ∃ cs fr, w.heap[b]? = some (.cells cs e fr) := by
  intro b hb
  rcases h with ⟨h, -⟩ | ⟨q, cur, rfl, -, h2, -⟩
  · simp [ob, h] at hb
  · unfold ob at hb
    split at hb
    · simp at hb
    · simp at hb; subst hb; exact ⟨cur, _, h2⟩
theorem TakenI.keep {B : Nat} {oa : Option Addr} {oc : Nat} {XS : List Ra} {w w' : World} (h : TakenI B oa oc XS w) {S : List Nat} (k : Kp S w w') (hS : ∀ b ∈ S, b < B) : TakenI B oa oc XS w' :=
  ⟨h.own.keep k (fun b hb hb2 => by have := (h.own.ob_ge b hb).1; have := hS b hb2; omega), fun x hx => (h.rec' x hx).keep k (fun b hb => .inl (hS b hb))⟩
theorem TakenI.snoc {B : Nat} {oa oa' : Option Addr} {oc oc' : Nat} {XS : List Ra} {x : Ra} {w w' : World} (h : TakenI B oa oc XS w) (hx : RaOwn w B x) (ho : OwnS racells 5 w' B 34 oa' oc' (XS ++ [x])) (k : Kp (ob oa oc) w w') : TakenI B oa' oc' (XS ++ [x]) w' := by
  refine ⟨ho, fun y hy => ?_⟩
  have hS : ∀ b ∈ ob oa oc, b < B ∨ ∃ cs fr, w.heap[b]? = some (.cells cs 34 fr) := fun b hb => .inr (own_rows h.own b hb)
  rcases List.mem_append.1 hy with hy | hy
  · exact (h.rec' y hy).keep k hS
  · simp at hy; subst hy; exact hx.keep k hS

theorem ownY_apart {α : Type} {f : α → List Value} {sz : Nat} {w : World} {B B' : Nat} {e e' : TypeId} {k : IntKind} {ad ad' : Option Addr} {cap cap' : Nat} {zs : List Int} {l' : List α} (h : Own w B e k ad cap zs) (h' : OwnS f sz w B' e' ad' cap' l') (hne : e ≠ e') : ∀ b, b ∈ ob ad cap → b ∉ ob ad' cap' := by
  intro b hb hb'
  obtain ⟨cs, fr, h1⟩ := own_rows h' b hb'
  exact ownI_ne h h1 hne hb

theorem Own.keepX {α : Type} {f : α → List Value} {sz : Nat} {w w' : World} {B B' : Nat} {e e' : TypeId} {k : IntKind} {ad ad' : Option Addr} {cap cap' : Nat} {zs : List Int} {l' : List α} (h : Own w B e k ad cap zs) (h' : OwnS f sz w B' e' ad' cap' l') (hne : Hid (e ≠ e')) (kp : Kp (ob ad' cap') w w') : Own w' B e k ad cap zs :=
  h.keep kp (ownY_apart h h' hne.out)

set_option maxHeartbeats 6400000 in
theorem taken20_any {T k mt leaf B : Nat} {X : Nat → Prop} {ra : Option Addr} {rc : Nat} {RL : List Rc} {na : Option Addr} {nc : Nat} {NL : List Nh} (w : World) (h : TreeH T k mt leaf B X ra rc RL na nc NL w) (hk : 1 ≤ k) (hk8 : k ≤ 8) (hmt : mt ≤ 1000)
    (ma : Option Addr) (mn mc : Nat) (MF : List Bh) (hM : mn = MF.length) (hmk : mn = k) (hm : RdM w ma mc MF) (ba : Option Addr) (bn bc : Nat) (BF : List Bool) (hB : bn = BF.length) (hbk : bn = k) (hb : RdF w ba bc BF) (hbt : Built k leaf (RL.map (pr k)) (NL.map pn) (lisF MF) BF)
    (hnd : (askN k (RL.map (pr k)) (NL.map pn) (lisF MF) BF 0).Nodup) (hlt : ∀ i ∈ askN k (RL.map (pr k)) (NL.map pn) (lisF MF) BF 0, i < RL.length) :
    Calls Try.prog 31 #[.pointer (some ⟨T, 0, none⟩), .slice ma mn mc, .slice ba bn bc] w fun e w' => ∃ oa oc XS, e = .returned (.tuple #[.slice oa (askN k (RL.map (pr k)) (NL.map pn) (lisF MF) BF 0).length oc, .bool true]) ∧
      XS.map Ra.pr = (askN k (RL.map (pr k)) (NL.map pn) (lisF MF) BF 0).map (recAt (RL.map (pr k))) ∧ TakenI w.heap.size oa oc XS w' ∧ Kp [] w w' := by
  have HAK := Lib.hid (wAsk_any w h hk hk8 hmt ma mn mc MF hM hmk hm ba bn bc BF hB hbk hb hbt)
  have hfew := hbt.few
  have hRb := hbt.rb
  obtain ⟨R, hR⟩ : ∃ R, R = RL.map (pr k) := ⟨_, rfl⟩
  rw [← hR] at HAK hnd hlt hfew hRb ⊢
  obtain ⟨L, hL⟩ : ∃ L, L = askN k R (NL.map pn) (lisF MF) BF 0 := ⟨_, rfl⟩
  rw [← hL] at HAK hnd hlt hfew ⊢
  obtain ⟨ln, hln⟩ : ∃ ln, ln = L.length := ⟨_, rfl⟩
  rw [← hln] at HAK hfew ⊢
  obtain ⟨rl, hrl⟩ : ∃ rl, rl = RL.length := ⟨_, rfl⟩
  have HRL : Hid (R.length = rl) := Lib.hid (by rw [hR, List.length_map, hrl])
  rw [HRL.out] at hRb
  have HRLE := Lib.hid hrl
  have HREQ := Lib.hid hR
  have H := Lib.hid h
  have HLN := Lib.hid hln
  have HND := Lib.hid hnd
  have HLT : Hid (∀ i ∈ L, i < rl) := Lib.hid (by rw [hrl]; exact hlt)
  clear h hR hL hln hnd hlt hrl hbt hm hb hM hB hmk hbk
  go_enter Try.func31, Try.ntmps31
  go_wp2_with fail
  refine HAK.out.mono ?_
  rintro e w2 ⟨la, lc, rfl, hlo, kp2⟩
  have HLO := Lib.hid hlo
  have K2 := Lib.hid kp2
  have HLC : Hid (ln ≤ lc ∧ lc ≤ 9223372036854775807) := Lib.hid (by
    have := hlo.rd
    exact ⟨by rw [HLN.out, ← nums_len]; exact this.1, this.2.1⟩)
  clear hlo kp2 HAK
  go_wp2_with fail
  refine (stRecords_any (H.out.keep0 K2.out) hk).mono ?_
  rintro e w3 ⟨rfl, rfl⟩
  rw [← HRLE.out]
  have hmk : ∀ wx : World, _ := fun wx => make_ints (P := Try.prog) wx 23 3 .i64 .i64 .i64 rl 8 Try.underlying23 infoInt (by omega) (by omega)
  go_upto_region 5 with (fail)
  obtain ⟨P, hP⟩ : ∃ P, P = w3.heap.size := ⟨_, rfl⟩
  obtain ⟨w4, hw4⟩ : ∃ w4, w4 = w3.alloc (Obj.cells (ints .i64 (List.replicate rl 0)) 3) := ⟨_, rfl⟩
  rw [← hw4, ← hP]
  have k4 : Kp [] w3 w4 := by rw [hw4]; exact (Kp.refl [] w3).alloc _
  have HOW : Hid (Own w4 w3.heap.size 3 .i64 (some ⟨P, 0, none⟩) rl (cntM rl (L.take 0))) := Lib.hid (by
    rw [List.take_zero, cntM_nil]
    have := Own.row (w := w4) (base := w3.heap.size) (e := 3) (k := .i64) (g := P) (zs := List.replicate rl 0) (by rw [hP]; exact Nat.le_refl _) (by rw [hw4]; exact heap_alloc_at hP) (by simp; omega)
    simpa using this)
  have HPW : Hid (w3.heap.size ≤ P ∧ P < w4.heap.size) := Lib.hid ⟨by rw [hP]; exact Nat.le_refl _, by rw [hP, hw4]; simp⟩
  have HLP : Hid (P ∉ ob la lc) := Lib.hid (fun hb => by have := (HLO.out.ob_ge P hb).2; omega)
  have K4 := Lib.hid k4
  clear hmk hw4 hP k4
  go_wp2_with fail
  go_loopw [11, 30] (fun vo vi wr => ∃ (i : Nat) (oa : Option Addr) (oc : Nat) (XS : List Ra), i ≤ ln ∧ vi = .int .i64 i ∧ vo = .slice oa i oc ∧ Hid (i = XS.length) ∧ Hid (XS.map Ra.pr = (L.take i).map (recAt R)) ∧ Hid (TakenI w4.heap.size oa oc XS wr) ∧ Hid (Own wr w3.heap.size 3 .i64 (some ⟨P, 0, none⟩) rl (cntM rl (L.take i))) ∧ Hid (Kp [P] w4 wr)) (fun _ vi _ => ln - (intOf vi).toNat)
  case atStart => exact ⟨0, none, 0, [], Nat.zero_le _, rfl, rfl, Lib.hid rfl, Lib.hid rfl, Lib.hid ⟨OwnS.nil _ _ _ _ _, by simp⟩, HOW, Lib.hid (Kp.refl _ _)⟩
  case round =>
    obtain ⟨i, oa, oc, XS, hi, rfl, rfl, HXL, HXE, HTK, HO, HK⟩ := hrel
    obtain ⟨wo, rfl⟩ : ∃ wo : World, wo = wr := ⟨_, rfl⟩
    have HK3 : Hid (Kp [] w3 wo) := Lib.hid (K4.out.trans HK.out (by simp) (fun b hb => by simp at hb; subst hb; exact .inr HPW.out.1))
    by_cases hlt : i < ln
    · have hil : i < L.length := by rw [← HLN.out]; exact hlt
      have HLOW : Hid (Own wo w.heap.size 3 .i64 la lc (nums L)) := Lib.hid ((HLO.out.keep0 K4.out).keep HK.out (fun b hb hb2 => by simp at hb2; subst hb2; exact HLP.out hb))
      obtain ⟨gl, rfl, cl, -, -, -⟩ := HLOW.out.at' (i := i) (by rw [nums_len]; exact hil)
      rw [nums_nth hil] at cl
      have hlc := HLC.out.1
      have hlc2 := HLC.out.2
      have HTS : Hid (L.take (i + 1) = L.take i ++ [L[i]]) := Lib.hid (List.take_succ_eq_append_getElem hil)
      have hcz : (L.take i).count L[i] = 0 := by
        rw [List.count_eq_zero]
        intro hm
        obtain ⟨j, hj, e⟩ := List.getElem_of_mem hm
        rw [List.length_take] at hj
        rw [List.getElem_take] at e
        have := (List.pairwise_iff_getElem.1 HND.out) j i (by omega) hil (by omega)
        exact this e
      have hnr : L[i] < rl := HLT.out _ (List.getElem_mem hil)
      obtain ⟨n, hn⟩ : ∃ n, n = L[i] := ⟨_, rfl⟩
      rw [← hn] at cl HTS hcz hnr
      obtain ⟨r, hr⟩ : ∃ r, R[n]? = some r := ⟨_, List.getElem?_eq_getElem (by rw [HRL.out]; exact hnr)⟩
      have HREC := Lib.hid (recAt_get hr)
      have HRC := Lib.hid (stRecord_at wo ((H.out.keep0 K2.out).keep0 HK3.out) hk hk8 hmt n (by rw [← HREQ.out]; exact hr))
      have HCZ := Lib.hid hcz
      clear hr hn hil hcz
      go_wp2_with fail
      refine HRC.out.mono ?_
      rintro e w11 ⟨x, rfl, hx, hox, kpw11⟩
      have HXP := Lib.hid hx
      unfold raV
      go_upto_region 10 with (refine wpList_store_row rfl 34 _ _ rfl w11.heap.size #[.slice x.ia x.ids.length x.ic, .int .i64 x.cnt, .slice x.sa x.ms.length x.sc, .slice x.la x.ms.length x.lc, .slice x.ga x.ms.length x.gc] rfl rfl 34 _ (heap_alloc_at rfl) (by kernel_rfl) rfl (by simp [Value.oneCell']) ?_)
      obtain ⟨q, hq⟩ : ∃ q, q = w11.heap.size := ⟨_, rfl⟩
      generalize hz : (w11.alloc (Obj.cells _ _)).setRow _ _ = w12
      rw [← hq] at hz ⊢
      have hrp : w12.heap[q]? = some (.cells #[.slice x.ia x.ids.length x.ic, .int .i64 x.cnt, .slice x.sa x.ms.length x.sc, .slice x.la x.ms.length x.lc, .slice x.ga x.ms.length x.gc] 34) := by rw [← hz]; exact setRow_heap _ q _ _ _ _ (heap_alloc_at hq)
      have kp : Kp [] w11 w12 := by rw [← hz]; exact ((Kp.refl [] w11).alloc _).setRowF _ _ (.inr (by omega))
      have HRP := Lib.hid hrp
      have KW := Lib.hid (kpw11.tr kp)
      have HRX := Lib.hid ((hox.keep0 kp).mono HK.out.size)
      have HO12 := Lib.hid (HO.out.keep0 KW.out)
      have HTK12 := Lib.hid (HTK.out.keep KW.out (by simp))
      have HK12 : Hid (Kp [P] w4 w12) := Lib.hid (HK.out.trans KW.out (U := [P]) (fun _ h => .inl h) (by simp))
      have HQP : Hid (q ∉ [P]) := Lib.hid (by
        have h1 := HPW.out.2
        have h2 := HK.out.size
        have h3 := kpw11.size
        simp; omega)
      clear hz hrp kp kpw11 hx hox hq HRC cl
      obtain ⟨gP, hgP, cP, fP, -, -⟩ := HO12.out.at' (i := n) (by rw [cntM_len]; exact hnr)
      cases hgP
      rw [cntM_nth _ hnr, HCZ.out] at cP
      replace cP : w12.cell? ⟨P, n, none⟩ = some (.int .i64 0) := cP
      have HO13 : Hid (Own (w12.setCell ⟨P, n, none⟩ (.int .i64 1)) w3.heap.size 3 .i64 (some ⟨P, 0, none⟩) rl (cntM rl (L.take (i + 1)))) := Lib.hid (by
        have h1 := HO12.out.set n 1
        have h2 := cntM_set (M := rl) (L.take i) hnr
        rw [HCZ.out] at h2
        rw [HTS.out, ← h2]
        exact h1)
      have k13 : Kp [P] w12 (w12.setCell ⟨P, n, none⟩ (.int .i64 1)) := (Kp.refl [P] w12).setCell _ _ (by simp)
      have HRP13 : Hid ((w12.setCell ⟨P, n, none⟩ (.int .i64 1)).heap[q]? = some (.cells #[.slice x.ia x.ids.length x.ic, .int .i64 x.cnt, .slice x.sa x.ms.length x.sc, .slice x.la x.ms.length x.lc, .slice x.ga x.ms.length x.gc] 34)) := Lib.hid (k13.get HRP.out HQP.out)
      have K13 := Lib.hid k13
      clear k13
      go_upto_region 13 with (fail)
      generalize w12.setCell ⟨P, n, none⟩ (.int .i64 1) = w13 at *
      have HTK13 := Lib.hid (HTK12.out.keep K13.out (fun b hb => by simp at hb; subst hb; exact HPW.out.2))
      have HRX13 := Lib.hid (HRX.out.keep K13.out (fun b hb => by simp at hb; subst hb; exact .inl HPW.out.2))
      have HK13 : Hid (Kp [P] w4 w13) := Lib.hid (HK12.out.trans K13.out (U := [P]) (fun _ h => .inl h) (fun _ h => .inl h))
      have HSZ : Hid (w4.heap.size ≤ w13.heap.size) := Lib.hid HK13.out.size
      have HNIR : Hid ((3 : TypeId) ≠ 34) := Lib.hid (by decide)
      clear cP fP
      go_wp2_with first
        | (refine wpList_load_row rfl 34 _ rfl q rfl 34 #[.slice x.ia x.ids.length x.ic, .int .i64 x.cnt, .slice x.sa x.ms.length x.sc, .slice x.la x.ms.length x.lc, .slice x.ga x.ms.length x.gc] (0, 0) _ HRP13.out Try.underlying34 rfl (by kernel_rfl) ?_)
        | (at_builtin; refine wpList_appS ralies rfl (.tmp 55) (.tmp 57) 50 50 rfl w4.heap.size 34 (.agg #[.slice none 0 0, .int .i64 0, .slice none 0 0, .slice none 0 0, .slice none 0 0]) 104 Try.underlying50 infoRecA rfl oa oc i XS HXL.out [x] _ 1 rfl rfl rfl (HTK13.out.own.alloc _) (src_oneS ralies Try.underlying50 (heap_alloc_at rfl)) (by omega) (by omega) (by have := HSZ.out; simp only [World.size_alloc]; omega) ?_; intro oa1 oc1 w14 ho14 kp14 _ _; have HTK14 := Lib.hid ((HTK13.out.keep ((Kp.refl [] w13).alloc _) (by simp)).snoc (HRX13.out.keep0 ((Kp.refl [] w13).alloc _)) ho14 kp14); have HO14 : Hid (Own w14 w3.heap.size 3 .i64 (some ⟨P, 0, none⟩) rl (cntM rl (L.take (i + 1)))) := Lib.hid ((HO13.out.alloc _).keepX (HTK13.out.own.alloc _) HNIR kp14); have HK14 : Hid (Kp [P] w4 w14) := Lib.hid ((HK13.out.alloc _).trans kp14 (U := [P]) (fun _ h => .inl h) (fun b hb => .inr (HTK13.out.own.ob_ge b hb).1)); clear ho14 kp14)
      go_roundw
      case rel => exact ⟨i + 1, oa1, oc1, XS ++ [x], hlt, by go_num, by go_num, Lib.hid (by rw [List.length_append, ← HXL.out]; rfl), Lib.hid (by rw [HTS.out, List.map_append, List.map_append, HXE.out]; simp [HXP.out, HREC.out]), HTK14, HO14, HK14⟩
      case measure => simp [intOf]; omega
    · obtain rfl : ln = i := by omega
      have HXF : Hid (XS.map Ra.pr = L.map (recAt R)) := Lib.hid (by
        have := HXE.out
        rwa [List.take_of_length_le (by rw [← HLN.out]; exact Nat.le_refl _)] at this)
      have hws : w.heap.size ≤ w4.heap.size := (K2.out.tr K4.out).size
      have HTF : Hid (TakenI w.heap.size oa oc XS wo) := Lib.hid ⟨HTK.out.own.mono hws, fun x hx => (HTK.out.rec' x hx).mono hws⟩
      clear hws
      go_wp2_with fail
      go_ret2
      exact ⟨oa, oc, XS, rfl, HXF.out, HTF.out, K2.out.tr HK3.out⟩
end Go.Proofs.Ythmaobmgogmaoaa
