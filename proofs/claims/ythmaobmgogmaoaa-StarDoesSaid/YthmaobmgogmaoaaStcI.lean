/-
  The document's star-trees: growing, walked.
-/
import Derived.Test.YthmaobmgogmaoaaStcH
namespace Go.Proofs.Ythmaobmgogmaoaa
open Go.RowKit Go.Shelf
set_option linter.unusedSimpArgs false
set_option linter.unusedVariables false
set_option maxRecDepth 100000

/-- What a call to grow does. -/
def GrowA (k mt leaf B f : Nat) : Prop := ∀ (st : Bool) (d p q T : Nat) (X : Nat → Prop) (ra : Option Addr) (rc : Nat) (RL : List Ra) (na : Option Addr) (nc : Nat) (NL : List Nh) (w : World),
  d + f = k → p ≤ q → q ≤ RL.length → RTree T k mt leaf B X ra rc RL na nc NL w → (∀ b, X b → b < w.heap.size) →
  (growP leaf k f st p q ⟨RL.map Ra.pr, NL.map pn⟩).R.length ≤ 100000 → (growP leaf k f st p q ⟨RL.map Ra.pr, NL.map pn⟩).N.length ≤ 100000000 →
  Calls Try.prog 43 #[.pointer (some ⟨T, 0, none⟩), .int .i64 (d : Int), .int .i64 (p : Int), .int .i64 (q : Int), .bool st] w fun e w' => e = .returned (.int .i64 ((NL.length : Nat) : Int)) ∧ RTreeIn T k mt leaf B X (frT T ra rc na nc) w (growP leaf k f st p q ⟨RL.map Ra.pr, NL.map pn⟩) w'
/-- Records that are put together for a star. -/
structure LrI (B k mt : Nat) (w1 : World) (la : Option Addr) (lc : Nat) (YS : List Ra) (w : World) : Prop where
  rd : RdS racells 5 w la lc YS
  el : ∀ z ∈ YS, GoodA k mt B w z
  kp : Kp [] w1 w
theorem LrI.keep0 {B k mt : Nat} {w1 : World} {la : Option Addr} {lc : Nat} {YS : List Ra} {w w' : World} (h : LrI B k mt w1 la lc YS w) (hk : Kp [] w w') : LrI B k mt w1 la lc YS w' := ⟨RdS.keep0 h.rd ralies.len hk, fun z hz => (h.el z hz).keep0 hk, h.kp.tr hk⟩
theorem star_step {R : List PR} {d p j : Nat} {x : PR} (hp : p ≤ j) (hx : R[j]? = some x) : togP (((R.take (j + 1)).drop p).map (starAt d)) = putP (togP (((R.take j).drop p).map (starAt d))) (starAt d x) := by
  have hj := (List.getElem?_eq_some_iff.1 hx).1
  rw [take_snoc hx, List.drop_append_of_le_length (by rw [List.length_take]; omega), List.map_append]
  exact togP_snoc _ _

set_option maxHeartbeats 6400000 in
theorem growA_step (k mt leaf B f : Nat) (hk : k ≤ 8) (hmt : mt ≤ 1000) (hl1 : 1 ≤ leaf) (hl2 : leaf ≤ 1000000) (ih : ∀ f', f = f' + 1 → GrowA k mt leaf B f') : GrowA k mt leaf B f := by
  intro st d p q T X ra rc RL na nc NL w hd hpq hq htree hX hbR hbN
  obtain ⟨S0, hS0⟩ : ∃ S0, S0 = (⟨RL.map Ra.pr, NL.map pn⟩ : St) := ⟨_, rfl⟩
  rw [← hS0] at hbR hbN ⊢
  obtain ⟨F, hF⟩ : ∃ F, F = frT T ra rc na nc := ⟨_, rfl⟩
  rw [← hF]
  have HLE := Lib.hid (grow_le leaf k f st p q S0)
  obtain ⟨G, hG⟩ : ∃ G, G = growP leaf k f st p q S0 := ⟨_, rfl⟩
  rw [← hG] at hbR hbN HLE ⊢
  have HG := Lib.hid hG
  have HF := Lib.hid hF
  have HS0 := Lib.hid hS0
  have HIH := Lib.hid ih
  have HX := Lib.hid hX
  have HBR := Lib.hid hbR
  have HBN := Lib.hid hbN
  have HT := Lib.hid htree
  have HB0 := Lib.hid htree.base
  obtain ⟨n, hn⟩ : ∃ n, n = NL.length := ⟨_, rfl⟩
  obtain ⟨rn, hrn⟩ : ∃ rn, rn = RL.length := ⟨_, rfl⟩
  rw [← hn]
  rw [← hrn] at hq
  have HN := Lib.hid hn
  have HRN := Lib.hid hrn
  have hnb : n ≤ 100000000 := by have h1 := HLE.out.2; rw [hS0] at h1; simp at h1; rw [hn]; omega
  have hrb : rn ≤ 100000 := by
    obtain ⟨⟨⟨E, h1⟩, -⟩, -⟩ := HLE.out
    have := congrArg List.length h1
    rw [hS0] at this
    simp at this; rw [hrn]; omega
  clear ih hX hbR hbN htree hF hS0 hG
  obtain ⟨c0, c1, c3, c4, f3, f4⟩ := HT.out.cell
  rw [← hn] at c4
  rw [← hrn] at c3
  have hwe : IntKind.i64.wrap ((q : Int) - (p : Int)) = ((q - p : Nat) : Int) := by rw [IntWalk.i64_in _ (by omega)]; omega
  obtain ⟨sz, hsz⟩ : ∃ sz, sz = q - p := ⟨_, rfl⟩
  rw [← hsz] at hwe
  have HSZ := Lib.hid hsz
  obtain ⟨d1, hd1⟩ : ∃ d1, d1 = d + 1 := ⟨_, rfl⟩
  have hwn : IntKind.i64.wrap ((d : Int) + 1) = (d1 : Int) := by rw [IntWalk.i64_in _ (by omega)]; omega
  have HD1 := Lib.hid hd1
  have HSW : Hid (T < w.heap.size ∧ B ≤ w.heap.size) := Lib.hid ⟨HT.out.lt, by have h1 := HT.out.lt; have h2 := HB0.out; omega⟩
  clear hn hrn hsz hd1
  go_enter Try.func43, Try.ntmps43
  go_upto_region 3 with first
    | (at_builtin; refine wpList_appS nlies rfl (.tmp 30) (.tmp 35) 51 51 rfl B 40 (.agg #[.int .i64 0, .int .i64 0, .int .i64 0, .slice none 0 0]) 48 Try.underlying51 infoNode rfl na nc n NL HN.out [⟨d, p, q, none, 0, 0, []⟩] _ 1 rfl rfl rfl (HT.out.nodes.alloc _) (src_oneS nlies Try.underlying51 (heap_alloc_at rfl)) (by omega) (by omega) (by have := HSW.out; simp only [World.size_alloc]; omega) ?_; intro na1 nc1 w1 hn1 kp1 hob1 _; have hkw1 : Kp (ob na nc) w w1 := ((Kp.refl [] w).alloc _).trans kp1 (by simp) (fun b hb => .inl hb); have ht1 := hkw1.get HT.out.blk (own_ne HT.out.nodes HT.out.blk rNe.2.1); have c4 : w1.cell? ⟨T, 3, none⟩ = some (.slice na n nc) := (by rw [cell_of_row w1 T 3 _ _ _ ht1, HN.out]; rfl); have f4 := frozen_of_row w1 T 3 _ _ ht1; have HN1 := Lib.hid hn1; have HKW1 := Lib.hid hkw1; have HT1 := Lib.hid ht1; have HOB1 := Lib.hid hob1; clear hn1 kp1 hkw1 ht1 hob1)
  have ht2 : (w1.setCell ⟨T, 3, none⟩ (.slice na1 (n + 1) nc1)).heap[T]? = some (.cells (rtC k leaf ra RL.length rc na1 (NL ++ [(⟨d, p, q, none, 0, 0, []⟩ : Nh)]).length nc1) 53 (0, 0)) := by
    rw [heap_setCell_same w1 T 3 _ _ _ HT1.out, List.length_append, ← HN.out]; rfl
  have k2 : Kp [T] w1 (w1.setCell ⟨T, 3, none⟩ (.slice na1 (n + 1) nc1)) := (Kp.refl [T] w1).setCell _ _ (by simp)
  generalize w1.setCell ⟨T, 3, none⟩ (.slice na1 (n + 1) nc1) = w2 at *
  have htr2 := HT.out.addNode (y := ⟨d, p, q, none, 0, 0, []⟩) HKW1.out HN1.out ⟨rfl, rfl, rfl⟩ k2 ht2
  have hKF : Kp F w w2 := by
    rw [HF.out]
    exact HKW1.out.trans k2 (fun b hb => .inl (by unfold frT; simp [hb])) (fun b hb => .inl (by unfold frT; simp at hb; simp [hb]))
  have hFR : ∀ b ∈ frT T ra rc na1 nc1, b ∈ F ∨ w.heap.size ≤ b := by
    intro b hb
    rw [HF.out]
    unfold frT at hb ⊢
    rcases List.mem_cons.1 hb with rfl | hb
    · exact .inl (by simp)
    · rcases List.mem_append.1 hb with hb | hb
      · exact .inl (by simp [hb])
      · rcases HOB1.out b hb with h | h
        · exact .inl (by simp [h])
        · exact .inr (by simpa using Nat.le_trans (by simp) h)
  obtain ⟨S1, hS1⟩ : ∃ S1, S1 = (⟨S0.R, S0.N ++ [⟨d, p, q, []⟩]⟩ : St) := ⟨_, rfl⟩
  have HIN2 : Hid (RTreeIn T k mt leaf B X F w S1 w2) := Lib.hid ⟨ra, rc, RL, na1, nc1, _, htr2, by rw [hS1, HS0.out, List.map_append]; rfl, hFR, hKF⟩
  have HS1 := Lib.hid hS1
  have HS0N : Hid (S0.N.length = n ∧ S0.R.length = rn) := Lib.hid (by rw [HS0.out, HN.out, HRN.out]; simp)
  obtain ⟨c0, c1, -, -, -, -⟩ := htr2.cell
  clear ht2 k2 htr2 hKF hFR hS1 HKW1 HN1 HT1 HOB1
  by_cases hdk : d = k
  · have hb : ((d : Int) == (k : Int)) = true := by simp [hdk]
    have HP := Lib.hid (leafP (leaf := leaf) (p := p) (q := q) (st := st) (S := S0) hd (.inl hdk))
    go_wp2_with fail
    go_ret
    exact ⟨rfl, by rw [HG.out, HP.out, ← HS1.out]; exact HIN2.out⟩
  · have hb : ((d : Int) == (k : Int)) = false := by simp; omega
    by_cases hsl : (sz : Int) ≤ (leaf : Int)
    · have HP := Lib.hid (leafP (leaf := leaf) (p := p) (q := q) (st := st) (S := S0) hd (.inr (by have := HSZ.out; omega)))
      go_wp2_with fail
      go_ret
      exact ⟨rfl, by rw [HG.out, HP.out, ← HS1.out]; exact HIN2.out⟩
    · obtain ⟨f', rfl⟩ : ∃ f', f = f' + 1 := ⟨f - 1, by omega⟩
      have HGK := Lib.hid (growP_kids (leaf := leaf) (st := st) (p := p) (q := q) hd (by have := HSZ.out; omega) HS1.out)
      have HIH2 := Lib.hid (HIH.out f' rfl)
      obtain ⟨r, hr⟩ : ∃ r, r = kidsP (fun a e T => growP leaf k f' st a e T) S0.R d q (q - p) p S1 [] := ⟨_, rfl⟩
      rw [← hr] at HGK
      have HR := Lib.hid hr
      have HRLE : Hid (St.Le S1 r.1) := Lib.hid (by rw [hr]; exact kids_le (fun a e T => (grow_le leaf k f' st a e T).1) _ _ _ _ _ _ _)
      have HRB : Hid (r.1.R.length ≤ 100000 ∧ r.1.N.length ≤ 100000000) := Lib.hid (by
        have h1 := HBR.out
        have h2 := HBN.out
        rw [HG.out, HGK.out] at h1 h2
        cases st
        · simp only [Bool.false_eq_true, if_false, setKids_len] at h1 h2
          obtain ⟨⟨⟨E, h3⟩, h4⟩, -⟩ := grow_le leaf k f' true r.1.R.length (r.1.R.length + (starRecs r.1.R d p q).length) ⟨r.1.R ++ starRecs r.1.R d p q, r.1.N⟩
          rw [h3] at h1
          simp at h1 h4
          omega
        · simp only [if_true, setKids_len] at h1 h2
          exact ⟨h1, h2⟩)
      clear hr HIH
      go_wp2_with fail
      go_loopw [12, 13, 14] (fun vk va vi wr => ∃ (a i : Nat) (ka : Option Addr) (kc : Nat) (KL : List (Int × Nat)) (Sc : St), p ≤ a ∧ a ≤ i ∧ i ≤ q ∧ vi = .int .i64 i ∧ va = .int .i64 a ∧ vk = .slice ka KL.length kc ∧ KL.length ≤ a - p ∧ Hid (runEnd S0.R d (idAt S0.R a d) (q - a) a = runEnd S0.R d (idAt S0.R a d) (q - i) i ∧ (i < q → idAt S0.R i d = idAt S0.R a d) ∧ (i = q → a = q)) ∧ Hid (kidsP (fun a e T => growP leaf k f' st a e T) S0.R d q (q - a) a Sc KL = r) ∧ Hid (RTreeIn T k mt leaf B (fun b => X b ∨ b ∈ ob ka kc) F w Sc wr) ∧ Hid (OwnS kdcells 2 wr w.heap.size 44 ka kc KL) ∧ Hid (St.Le S1 Sc)) (fun _ _ vi _ => q - (intOf vi).toNat)
      case atStart => exact ⟨p, p, none, 0, [], S1, Nat.le_refl _, Nat.le_refl _, hpq, rfl, rfl, rfl, Nat.zero_le _, Lib.hid ⟨rfl, fun _ => rfl, fun h => h⟩, Lib.hid HR.out.symm, Lib.hid (by
        obtain ⟨a1, a2, a3, a4, a5, a6, h1, h2, h3, h4⟩ := HIN2.out
        exact ⟨a1, a2, a3, a4, a5, a6, h1.more (fun b hb => by simp [ob] at hb; exact .inl hb), h2, h3, h4⟩), Lib.hid (OwnS.nil _ _ _ _ _), Lib.hid (St.Le.refl _)⟩
      case round =>
        obtain ⟨a, i, ka, kc, KL, Sc, hpa, hai, hiq, rfl, rfl, rfl, hkl, HRUN, HKP, HTI, HKO, HSL⟩ := hrel
        obtain ⟨wi, rfl⟩ : ∃ wi : World, wi = wr := ⟨_, rfl⟩
        by_cases hlt : i < q
        · obtain ⟨r1, rc1, RL1, n1, nc1', NL1, ht, hSc, hfr, hkf⟩ := HTI.out
          have HSC := Lib.hid hSc
          have HFR := Lib.hid hfr
          have HKF := Lib.hid hkf
          have HTT := Lib.hid ht
          have hRL : q ≤ RL1.length := by
            obtain ⟨⟨E, h1⟩, -⟩ := HSL.out
            rw [hSc, HS1.out] at h1
            have h2 := congrArg List.length h1
            have h3 := HS0N.out.2
            simp at h2
            omega
          have HPRE : Hid (∀ j, j < q → idAt (RL1.map Ra.pr) j d = idAt S0.R j d) := Lib.hid (fun j hj => by
            obtain ⟨⟨E, h1⟩, -⟩ := HSL.out
            rw [hSc, HS1.out] at h1
            dsimp only at h1
            rw [h1]
            exact idAt_append (by rw [HS0N.out.2]; omega))
          have HRLN := Lib.hid hRL
          obtain ⟨-, -, c3, -, -, -⟩ := ht.cell
          obtain ⟨ga, g2, ic2, rfl, hic2, hic2b, cr, cid⟩ := ht.id (a := i) (d := d) (by omega) (by omega)
          rw [HPRE.out i hlt, HRUN.out.2.1 hlt] at cid
          obtain ⟨rn1, hrn1⟩ : ∃ rn1, rn1 = RL1.length := ⟨_, rfl⟩
          rw [← hrn1] at c3
          have hirn : i < rn1 := by omega
          have hrc : rn1 ≤ rc1 ∧ rc1 ≤ 9223372036854775807 := ⟨by rw [hrn1]; exact (ht.recs.rd ralies).1, (ht.recs.rd ralies).2.1⟩
          have hrnb : rn1 ≤ 100000 ∧ NL1.length ≤ 100000000 := by
            have h1 := kids_le (g := fun a e T => growP leaf k f' st a e T) (fun a e T => (grow_le leaf k f' st a e T).1) S0.R d q (q - a) a Sc KL
            rw [HKP.out] at h1
            obtain ⟨⟨E, h2⟩, h3⟩ := h1
            have h4 := congrArg List.length h2
            have h5 := HRB.out
            rw [hSc] at h3 h4
            simp at h3 h4
            omega
          obtain ⟨id, hid⟩ : ∃ id, id = idAt S0.R a d := ⟨_, rfl⟩
          rw [← hid] at cid HRUN
          have HID := Lib.hid hid
          have HRN1 := Lib.hid hrn1
          have hd8 : d < 8 := by omega
          have hdk2 : d < k := by omega
          obtain ⟨i1, hi1⟩ : ∃ i1, i1 = i + 1 := ⟨_, rfl⟩
          have hwi : IntKind.i64.wrap ((i : Int) + 1) = (i1 : Int) := by rw [IntWalk.i64_in _ (by omega)]; omega
          have HI1 := Lib.hid hi1
          clear hSc hfr hkf ht hRL hid hrn1
          go_upto_region 10 with (fail)
          go_cut [92] (fun v92 wx => ∃ b : Bool, v92 = .bool b ∧ Hid (b = true → runEnd S0.R d id (q - i) i = i1) ∧ Hid (b = false → i1 < q ∧ idAt S0.R i1 d = id) ∧ Hid (Kp [] wi wx))
          case first =>
            by_cases hl : i1 = q
            · have hbq : ((i1 : Int) == (q : Int)) = true := by simp [hl]
              have HS2 : Hid (runEnd S0.R d id (q - i) i = i1) := Lib.hid (by rw [hi1]; exact run_last (by omega) (HRUN.out.2.1 hlt))
              clear hi1 hl
              go_wp2_with go_quiet (fail)
              go_meet
              exact ⟨true, rfl, Lib.hid (fun _ => HS2.out), Lib.hid (fun h => by cases h), Lib.hid (kdNs _ _)⟩
            · have hbq : ((i1 : Int) == (q : Int)) = false := by simp; omega
              have hi1q : i1 < q := by omega
              have hi1rn : i1 < rn1 := by have := HRLN.out; have := HRN1.out; omega
              obtain ⟨g', g3, ic3, hg', hic3, hic3b, cr3, cid3⟩ := HTT.out.id (a := i1) (d := d) (by have := HRN1.out; omega) (by omega)
              cases hg'
              rw [HPRE.out i1 hi1q] at cid3
              by_cases hs : idAt S0.R i1 d = id
              · rw [hs] at cid3
                have HS := Lib.hid hs
                have hbb : ((id : Int) != (id : Int)) = false := by simp
                clear hs hi1 hl
                go_wp2_with go_quiet (fail)
                go_meet
                exact ⟨false, rfl, Lib.hid (fun h => by cases h), Lib.hid (fun _ => ⟨hi1q, HS.out⟩), Lib.hid (kdNs _ _)⟩
              · have HS2 : Hid (runEnd S0.R d id (q - i) i = i1) := Lib.hid (by rw [hi1] at hs ⊢; exact run_diff hlt (HRUN.out.2.1 hlt) hs)
                obtain ⟨id2, hid2⟩ : ∃ id2, id2 = idAt S0.R i1 d := ⟨_, rfl⟩
                rw [← hid2] at cid3 hs
                have hbb : ((id2 : Int) != (id : Int)) = true := by simpa using hs
                clear hs hid2 hi1 hl
                go_wp2_with go_quiet (fail)
                go_meet
                exact ⟨true, rfl, Lib.hid (fun _ => HS2.out), Lib.hid (fun h => by cases h), Lib.hid (kdNs _ _)⟩
          obtain ⟨b, rfl, HBT, HBF, HKC⟩ := hcut
          obtain ⟨w10, rfl⟩ : ∃ w10 : World, w10 = wc := ⟨_, rfl⟩
          have HTT2 := Lib.hid (HTT.out.keep0 HKC.out)
          have HKF2 : Hid (Kp F w w10) := Lib.hid (HKF.out.trans HKC.out (fun b hb => .inl hb) (by simp))
          have HKO2 := Lib.hid (HKO.out.keep0 HKC.out)
          cases b
          · obtain ⟨h1, h2⟩ := HBF.out rfl
            have HS2 := Lib.hid h2
            have HTI2 := Lib.hid (HTI.out.keep0 HKC.out)
            clear h2 HBT HBF
            go_wp2_with fail
            go_roundw
            case rel => exact ⟨a, i1, ka, kc, KL, Sc, hpa, by omega, by omega, by rw [HI1.out]; go_num, rfl, rfl, hkl, Lib.hid (by
              rw [← HID.out]
              refine ⟨?_, fun _ => HS2.out, fun h => by omega⟩
              rw [HRUN.out.1, run_same hlt (HRUN.out.2.1 hlt), ← HI1.out]), HKP, HTI2, HKO2, HSL⟩
            case measure => simp [intOf]; omega
          · have HE : Hid (runEnd S0.R d id (q - a) a = i1) := Lib.hid (HRUN.out.1.trans (HBT.out rfl))
            have haq : a < q := by omega
            have hi1q : i1 ≤ q := by omega
            have HKP2 : Hid (kidsP (fun a e T => growP leaf k f' st a e T) S0.R d q (q - i1) i1 (growP leaf k f' st a i1 Sc) (KL ++ [(id, NL1.length)]) = r) := Lib.hid (by
              have h1 := kids_step (g := fun a e T => growP leaf k f' st a e T) (R := S0.R) (d := d) (S := Sc) (ks := KL) haq
              rw [HKP.out] at h1
              rw [h1, ← HID.out, HE.out, HSC.out]
              simp)
            have HB2 : Hid ((growP leaf k f' st a i1 ⟨RL1.map Ra.pr, NL1.map pn⟩).R.length ≤ 100000 ∧ (growP leaf k f' st a i1 ⟨RL1.map Ra.pr, NL1.map pn⟩).N.length ≤ 100000000) := Lib.hid (by
              have h1 := kids_le (g := fun a e T => growP leaf k f' st a e T) (fun a e T => (grow_le leaf k f' st a e T).1) S0.R d q (q - i1) i1 (growP leaf k f' st a i1 Sc) (KL ++ [(id, NL1.length)])
              rw [HKP2.out] at h1
              obtain ⟨⟨E2, h2⟩, h3⟩ := h1
              have h4 := congrArg List.length h2
              have h5 := HRB.out
              rw [HSC.out] at h3 h4
              simp only [List.length_append] at h4
              omega)
            clear HBT HBF
            go_wp2_with fail
            rw [show ((i : Int) + 1) = (i1 : Int) by rw [HI1.out]; rfl]
            refine (HIH2.out st d1 a i1 T (fun b => X b ∨ b ∈ ob ka kc) (some ⟨ga, 0, none⟩) rc1 RL1 n1 nc1' NL1 w10 (by have := HD1.out; omega) (by have := HI1.out; omega) (by have := HRLN.out; omega) HTT2.out (fun b hb => by
              rcases hb with hb | hb
              · exact Nat.lt_of_lt_of_le (HX.out b hb) HKF2.out.size
              · exact (HKO2.out.ob_ge b hb).2) HB2.out.1 HB2.out.2).mono ?_
            rintro e7 w7 ⟨rfl, hin7⟩
            have HIN7 := Lib.hid (hin7.tr HFR.out HKF2.out)
            have HKO7 : Hid (OwnS kdcells 2 w7 w.heap.size 44 ka kc KL) := Lib.hid (by
              obtain ⟨_, _, _, _, _, _, -, -, -, h4⟩ := hin7
              exact HKO2.out.keep h4 (HTT2.out.apart HKO2.out rNe.2.2.1 (fun e => rNe.2.2.2.2.1 e.symm) (fun e => rNe.2.2.2.2.2 e.symm)))
            have HSZ7 : Hid (w.heap.size ≤ w7.heap.size) := Lib.hid (by
              obtain ⟨_, _, _, _, _, _, -, -, -, h4⟩ := HIN7.out
              exact h4.size)
            have HSL7 : Hid (St.Le S1 (growP leaf k f' st a i1 ⟨RL1.map Ra.pr, NL1.map pn⟩)) := Lib.hid (by
              rw [← HSC.out]; exact HSL.out.trans (grow_le leaf k f' st a i1 Sc).1)
            obtain ⟨r7, rc7, RL7, n7, nc7, NL7, ht7, hS7, -, -⟩ := HIN7.out
            have hpre7 : idAt (RL7.map Ra.pr) a d = id ∧ a < RL7.length ∧ RL7.length ≤ 100000 := by
              obtain ⟨⟨⟨E, h1⟩, -⟩, -⟩ := grow_le leaf k f' st a i1 ⟨RL1.map Ra.pr, NL1.map pn⟩
              have h2 := HB2.out.1
              rw [hS7] at h1 h2
              dsimp only at h1 h2
              have h3 := congrArg List.length h1
              simp at h2 h3
              have h4 := HRN1.out
              refine ⟨?_, by omega, h2⟩
              rw [h1, idAt_append (by rw [List.length_map]; omega), HPRE.out a haq, HID.out]
            obtain ⟨-, -, c37, -, -, -⟩ := ht7.cell
            obtain ⟨ga7, g7, ic7, rfl, hic7, hic7b, cr7, cid7⟩ := ht7.id (a := a) (d := d) hpre7.2.1 (by omega)
            rw [hpre7.1] at cid7
            obtain ⟨rn7, hrn7⟩ : ∃ rn7, rn7 = RL7.length := ⟨_, rfl⟩
            have hrc7 : rn7 ≤ rc7 ∧ rc7 ≤ 9223372036854775807 ∧ a < rn7 := ⟨by rw [hrn7]; exact (ht7.recs.rd ralies).1, (ht7.recs.rd ralies).2.1, by rw [hrn7]; exact hpre7.2.1⟩
            rw [← hrn7] at c37
            obtain ⟨kn, hkn⟩ : ∃ kn, kn = KL.length := ⟨_, rfl⟩
            rw [← hkn] at hkl ⊢
            have HKN := Lib.hid hkn
            obtain ⟨hrc7a, hrc7b, har7⟩ := hrc7
            clear hin7 hkn ht7 hS7 hpre7 hrn7
            go_wp2_with (at_builtin; refine wpList_appS kdlies rfl (.tmp 101) (.tmp 115) 38 38 rfl w.heap.size 44 (.agg #[.int .i64 0, .int .i64 0]) 16 Try.underlying38 infoKid rfl ka kc kn KL HKN.out [(id, NL1.length)] _ 1 rfl rfl rfl (HKO7.out.alloc _) (src_oneS kdlies Try.underlying38 (heap_alloc_at rfl)) (by omega) (by omega) (by have := HSZ7.out; simp only [World.size_alloc]; omega) ?_; intro ka8 kc8 w8 ho8 kp8 hob8 _; have HIN8 := Lib.hid ((HIN7.out.keep0 ((Kp.refl [] w7).alloc _)).kids (HKO7.out.alloc _) (Nat.le_refl _) kp8 hob8); have HO8 := Lib.hid ho8; clear ho8 kp8 hob8)
            go_roundw
            case rel => exact ⟨i1, i1, ka8, kc8, KL ++ [(id, NL1.length)], growP leaf k f' st a i1 ⟨RL1.map Ra.pr, NL1.map pn⟩, by have := HI1.out; omega, Nat.le_refl _, by have := HI1.out; omega, by rw [HI1.out]; go_num, by rw [HI1.out]; go_num, by rw [List.length_append, ← HKN.out]; rfl, by have := HI1.out; rw [List.length_append, ← HKN.out]; simp; omega, Lib.hid ⟨rfl, fun _ => rfl, fun h => h⟩, Lib.hid (by rw [← HSC.out]; exact HKP2.out), HIN8, HO8, HSL7⟩
            case measure => have := HI1.out; simp [intOf]; omega
        · obtain rfl : i = q := by omega
          obtain rfl : a = i := HRUN.out.2.2 rfl
          have hrr : (Sc, KL) = r := by have := HKP.out; rw [kids_end] at this; exact this
          obtain rfl := hrr.symm
          have HGK2 := Lib.hid HGK.out
          dsimp only at HGK2
          have HNS : Hid (n < Sc.N.length) := Lib.hid (by
            have h1 := HSL.out.2
            rw [HS1.out] at h1
            have h2 := HS0N.out.1
            simp at h1; omega)
          clear HGK hrr HKP HR HRLE HRUN
          go_upto_if 120 with (fail)
          go_cut [12] (fun v12 wx => ∃ (ka : Option Addr) (kc : Nat) (KL : List (Int × Nat)) (Sf : St), v12 = .slice ka KL.length kc ∧ Hid (G = ⟨Sf.R, setKids Sf.N n KL⟩) ∧ Hid (RTreeIn T k mt leaf B (fun b => X b ∨ b ∈ ob ka kc) F w Sf wx) ∧ Hid (OwnS kdcells 2 wx w.heap.size 44 ka kc KL) ∧ Hid (n < Sf.N.length))
          case first =>
            cases st
            · obtain ⟨r1, rc1, RL1, n1, nc1', NL1, ht, hSc, hfr, hkf⟩ := HTI.out
              have hRL : a ≤ RL1.length := by
                obtain ⟨⟨E, h1⟩, -⟩ := HSL.out
                rw [hSc, HS1.out] at h1
                have h2 := congrArg List.length h1
                have h3 := HS0N.out.2
                simp at h2
                omega
              obtain ⟨-, -, c3, -, -, -⟩ := ht.cell
              have hpa2 : p < a := by have := HSZ.out; omega
              obtain ⟨ga, -, -, rfl, -, -, -, -⟩ := ht.id (a := p) (d := d) (by omega) (by omega)
              obtain ⟨rn1, hrn1⟩ : ∃ rn1, rn1 = RL1.length := ⟨_, rfl⟩
              rw [← hrn1] at c3
              have hqrn : a ≤ rn1 := by omega
              have hrc : rn1 ≤ rc1 ∧ rc1 ≤ 9223372036854775807 := ⟨by rw [hrn1]; exact (ht.recs.rd ralies).1, (ht.recs.rd ralies).2.1⟩
              have hrn1b : rn1 ≤ 100000 := by
                have h1 := HRB.out.1
                rw [hSc] at h1
                simp at h1
                omega
              have HTW := Lib.hid ht
              have HSC := Lib.hid hSc
              have HFR := Lib.hid hfr
              have HKF := Lib.hid hkf
              have HRN1 := Lib.hid hrn1
              have HPA := Lib.hid hpa2
              have hd8 : d < 8 := by omega
              have hdk2 : d < k := by omega
              have HBW : Hid (B ≤ wi.heap.size) := Lib.hid (Nat.le_trans ht.base (Nat.le_of_lt ht.lt))
              clear ht hSc hfr hkf hrn1 hRL
              go_wp2_with fail
              go_loopw [16, 17] (fun vl vi wr => ∃ (j : Nat) (la : Option Addr) (lc : Nat) (YS : List Ra), p ≤ j ∧ j ≤ a ∧ vi = .int .i64 j ∧ vl = .slice la YS.length lc ∧ YS.length ≤ j ∧ Hid (LrI B k mt wi la lc YS wr) ∧ Hid (YS.map Ra.pr = togP (((Sc.R.take j).drop p).map (starAt d)))) (fun _ vi _ => a - (intOf vi).toNat)
              case atStart => exact ⟨p, none, 0, [], Nat.le_refl _, hpa, rfl, rfl, Nat.zero_le _, Lib.hid ⟨(OwnS.nil racells 5 wi 0 34).rd ralies, by simp, Kp.refl _ _⟩, Lib.hid (by
                rw [List.drop_eq_nil_of_le (by rw [List.length_take]; omega)]; rfl)⟩
              case round =>
                obtain ⟨j, la, lc, YS, hpj, hja, rfl, rfl, hyj, HL, HYS⟩ := hrel
                obtain ⟨wt, rfl⟩ : ∃ wt : World, wt = wr := ⟨_, rfl⟩
                have HTT := Lib.hid (HTW.out.keep0 HL.out.kp)
                obtain ⟨-, -, c3, -, -, -⟩ := HTT.out.cell
                rw [← HRN1.out] at c3
                obtain ⟨yn, hyn⟩ : ∃ yn, yn = YS.length := ⟨_, rfl⟩
                have HYN := Lib.hid hyn
                rw [← hyn] at hyj ⊢
                clear hyn
                by_cases hlj : j < a
                · have hjR : j < RL1.length := by rw [← HRN1.out]; omega
                  have hjrn : j < rn1 := by omega
                  obtain ⟨g0, hg0, hcs, -, -⟩ := HTT.out.recs.at' ralies hjR
                  cases hg0
                  obtain ⟨ho, hle1, hle2⟩ := HTT.out.good _ (List.getElem_mem hjR)
                  have hxs : Sc.R[j]? = some RL1[j].pr := by rw [HSC.out]; dsimp only; rw [List.getElem?_map, List.getElem?_eq_getElem hjR]; rfl
                  have HSTEP := Lib.hid (star_step (d := d) hpj hxs)
                  rw [← HYS.out] at HSTEP
                  generalize RL1[j] = x at hcs ho hle1 hle2 HSTEP
                  obtain ⟨ids, ia, ic, cnt, ms, sa, sc, ma, mc, gb, gc⟩ := x
                  obtain ⟨mm, hmm⟩ : ∃ mm, mm = ms.length := ⟨_, rfl⟩
                  obtain ⟨kk, hkk⟩ : ∃ kk, kk = ids.length := ⟨_, rfl⟩
                  have hrg : wt.rangeAt ga (j * 5) [.slice ia kk ic, .int .i64 cnt, .slice sa mm sc, .slice ma mm mc, .slice gb mm gc] := fun s v hv => by
                    have hs : s < 5 := (List.getElem?_eq_some_iff.1 hv).1
                    rw [(hcs s hs).1, ← hv, hmm, hkk]; rfl
                  have HRG := Lib.hid hrg
                  have HXO := Lib.hid ho
                  have HKK := Lib.hid hkk
                  have HMM := Lib.hid hmm
                  have HLE : Hid (ids.length = k ∧ ms.length = mt) := Lib.hid ⟨hle1, hle2⟩
                  have hkk2 : kk ≤ 8 ∧ d < kk := by rw [hkk]; have := HLE.out.1; omega
                  have hicc : kk ≤ ic ∧ ic ≤ 9223372036854775807 := ⟨by rw [hkk]; exact ho.1.rd.1, ho.1.rd.2.1⟩
                  clear hcs ho hle1 hle2 hxs hjR hrg hmm hkk
                  go_upto_region 20 with first
                    | (refine wpList_load_mid rfl 34 _ rfl ga (j * 5) rfl [.slice ia kk ic, .int .i64 cnt, .slice sa mm sc, .slice ma mm mc, .slice gb mm gc] _ HRG.out Try.underlying34 rfl (by kernel_rfl) ?_)
                    | (refine wpList_store_row rfl 34 _ _ rfl wt.heap.size #[.slice ia kk ic, .int .i64 cnt, .slice sa mm sc, .slice ma mm mc, .slice gb mm gc] rfl rfl 34 _ (heap_alloc_at rfl) (by kernel_rfl) rfl (by simp [Value.oneCell']) ?_)
                  obtain ⟨px, hpx⟩ : ∃ px, px = wt.heap.size := ⟨_, rfl⟩
                  rw [← hpx]
                  generalize hw3 : (wt.alloc (Obj.cells #[.slice none 0 0, .int .i64 0, .slice none 0 0, .slice none 0 0, .slice none 0 0] 34)).setRow px #[.slice ia kk ic, .int .i64 cnt, .slice sa mm sc, .slice ma mm mc, .slice gb mm gc] = w3
                  have R3 : Hid (w3.heap[px]? = some (.cells #[.slice ia kk ic, .int .i64 cnt, .slice sa mm sc, .slice ma mm mc, .slice gb mm gc] 34)) := Lib.hid (by rw [← hw3]; exact setRow_heap _ px _ _ _ _ (heap_alloc_at hpx))
                  have K3 : Hid (Kp [] wt w3) := Lib.hid (by rw [← hw3]; exact ((Kp.refl [] wt).alloc _).setRowF _ _ (.inr (by omega)))
                  have HPX : Hid (wt.heap.size ≤ px) := Lib.hid (by omega)
                  have c1x := arow_cell (cells_alloc (o := .cells #[] 3) R3.out) 0 rfl
                  clear hw3 hpx
                  go_upto_region 21 with (at_builtin; go_must (refine wpList_app rfl (.tmp 134) (.tmp 136) 23 23 rfl wt.heap.size 3 .i64 8 Try.underlying23 infoInt (some ⟨w3.heap.size, 0, none⟩) 0 0 [] rfl ids _ kk HKK.out rfl rfl (.inl ⟨rfl, rfl⟩) (by rw [HKK.out]; exact src_rd ((HXO.out.1.rd.keep0 K3.out).keep0 ((Kp.refl [] w3).alloc _)) Try.underlying23) (by omega) (by omega) (by have := K3.out.size; simp only [World.size_alloc]; omega) ?_; intro ia1 ic1 w4 ho kp hob _; have HO4 := Lib.hid ho; have K4 : Hid (Kp [] w3 w4) := Lib.hid (((Kp.refl [] w3).alloc _).tr kp); have R4 := Lib.hid (K4.out.get R3.out (by simp)); have cS := arow_cell R4.out 0 rfl; have fS := frozen_of_row w4 px 0 _ _ R4.out; clear ho kp hob))
                  have kz : Kp [px] w4 (w4.setCell ⟨px, 0, none⟩ (.slice ia1 kk ic1)) := (Kp.refl [px] w4).setCell _ _ (by simp)
                  have HO5 : Hid (Own (w4.setCell ⟨px, 0, none⟩ (.slice ia1 kk ic1)) wt.heap.size 3 .i64 ia1 ic1 ids) := Lib.hid (HO4.out.keep kz (fun b hb hb2 => by simp at hb2; subst hb2; exact ownI_ne HO4.out R4.out (by decide) hb))
                  have R5 : Hid ((w4.setCell ⟨px, 0, none⟩ (.slice ia1 kk ic1)).heap[px]? = some (.cells #[.slice ia1 kk ic1, .int .i64 cnt, .slice sa mm sc, .slice ma mm mc, .slice gb mm gc] 34)) := Lib.hid (by rw [heap_setCell_same w4 px 0 _ _ _ R4.out]; rfl)
                  have K5 : Hid (Kp [] wt (w4.setCell ⟨px, 0, none⟩ (.slice ia1 kk ic1))) := Lib.hid ((K3.out.tr K4.out).trans kz (by simp) (fun b hb => by simp at hb; subst hb; exact .inr HPX.out))
                  generalize w4.setCell ⟨px, 0, none⟩ (.slice ia1 kk ic1) = w5 at *
                  obtain ⟨g, hg, cg, fg, hgB, hgm⟩ := HO5.out.at' (i := d) (by rw [← HKK.out]; omega)
                  subst hg
                  have hic1 : kk ≤ ic1 ∧ ic1 ≤ 9223372036854775807 := ⟨by rw [HKK.out]; exact HO5.out.rd.1, HO5.out.rd.2.1⟩
                  have cR := arow_cell R5.out 0 rfl
                  generalize nth ids d = vg at cg
                  have kz6 : Kp [g] w5 (w5.setCell ⟨g, d, none⟩ (.int .i64 (-1))) := (Kp.refl [g] w5).setCell _ _ (by simp)
                  have HO6 : Hid (Own (w5.setCell ⟨g, d, none⟩ (.int .i64 (-1))) wt.heap.size 3 .i64 (some ⟨g, 0, none⟩) ic1 (ids.set d (-1))) := Lib.hid (HO5.out.set d (-1))
                  have R6 : Hid ((w5.setCell ⟨g, d, none⟩ (.int .i64 (-1))).heap[px]? = some (.cells #[.slice (some ⟨g, 0, none⟩) kk ic1, .int .i64 cnt, .slice sa mm sc, .slice ma mm mc, .slice gb mm gc] 34)) := Lib.hid (kz6.get R5.out (fun hb => by simp at hb; subst hb; exact ownI_ne HO5.out R5.out (by decide) hgm))
                  have K6 : Hid (Kp [] wt (w5.setCell ⟨g, d, none⟩ (.int .i64 (-1)))) := Lib.hid (K5.out.trans kz6 (by simp) (fun b hb => by simp at hb; subst hb; exact .inr hgB))
                  clear kz kz6 c1x cS fS hgB hgm
                  go_upto_region 22 with (fail)
                  generalize w5.setCell ⟨g, d, none⟩ (.int .i64 (-1)) = w6 at *
                  obtain ⟨z0, hz0⟩ : ∃ z0 : Ra, z0 = ⟨ids.set d (-1), some ⟨g, 0, none⟩, ic1, cnt, ms, sa, sc, ma, mc, gb, gc⟩ := ⟨_, rfl⟩
                  have hrv : raV z0 = .agg #[.slice (some ⟨g, 0, none⟩) kk ic1, .int .i64 cnt, .slice sa mm sc, .slice ma mm mc, .slice gb mm gc] := by
                    rw [hz0]; unfold raV; dsimp only; rw [List.length_set, ← HKK.out, ← HMM.out]
                  have HB6 : Hid (B ≤ w6.heap.size ∧ B ≤ wt.heap.size) := Lib.hid ⟨Nat.le_trans (Nat.le_trans HBW.out HL.out.kp.size) K6.out.size, Nat.le_trans HBW.out HL.out.kp.size⟩
                  have hgz : GoodA k mt B w6 z0 := by
                    have hx := HXO.out.keep0 K6.out
                    rw [hz0]
                    exact ⟨⟨HO6.out.mono HB6.out.2, hx.2.1, hx.2.2.1, hx.2.2.2⟩, by show (ids.set d (-1)).length = k; rw [List.length_set]; exact HLE.out.1, HLE.out.2⟩
                  have HL6 := Lib.hid (HL.out.keep0 K6.out)
                  have hpc := r19Put_anyG (fun z => GoodA k mt B w6 z) la yn lc YS HYN.out (by omega) z0 k mt (by omega) hmt (fun x hx => (HL6.out.el x hx).2) hgz.2 w6 HL6.out.rd (fun x hx => (HL6.out.el x hx).1.rd) hgz.1.rd HL6.out.el hgz
                  rw [hrv] at hpc
                  have HPC := Lib.hid hpc
                  have HZP : Hid (z0.pr = starAt d (Ra.pr ⟨ids, ia, ic, cnt, ms, sa, sc, ma, mc, gb, gc⟩)) := Lib.hid (by rw [hz0]; rfl)
                  clear hpc hrv hgz hz0
                  go_wp2_with (refine wpList_load_row rfl 34 _ rfl px rfl 34 #[.slice (some ⟨g, 0, none⟩) kk ic1, .int .i64 cnt, .slice sa mm sc, .slice ma mm mc, .slice gb mm gc] (0, 0) _ R6.out Try.underlying34 rfl (by kernel_rfl) ?_)
                  refine HPC.out.mono ?_
                  rintro _ w7 ⟨oa2, oc2, YS2, rfl, ho7, he7, hg7, hm7, kp7⟩
                  have HL7 : Hid (LrI B k mt wi oa2 oc2 YS2 w7) := Lib.hid ⟨ho7.rd ralies, fun z hz => (hg7 z hz).elim (fun h => h.keep0 kp7) (fun h => ⟨h.mono HB6.out.1, (he7 z hz).2⟩), HL6.out.kp.tr kp7⟩
                  have HM7 : Hid (YS2.map Ra.pr = togP (((Sc.R.take (j + 1)).drop p).map (starAt d))) := Lib.hid (by rw [hm7, HSTEP.out, HZP.out])
                  have hy2 : YS2.length ≤ j + 1 := by
                    have h1 := congrArg List.length hm7
                    have h2 := put_len (YS.map Ra.pr) z0.pr
                    rw [List.length_map] at h1 h2
                    have h3 := HYN.out
                    omega
                  clear ho7 he7 hg7 hm7 kp7 HPC
                  go_wp2_with fail
                  go_roundw
                  case rel => exact ⟨j + 1, oa2, oc2, YS2, by omega, hlj, by go_num, rfl, hy2, HL7, HM7⟩
                  case measure => simp [intOf]; omega
                · obtain rfl : j = a := by omega
                  have HL2 : Hid (YS.map Ra.pr = starRecs Sc.R d p j) := Lib.hid HYS.out
                  have HGD2 := Lib.hid HL.out.el
                  have HRD2 := Lib.hid HL.out.rd
                  have HK8 := Lib.hid HL.out.kp
                  have hlc : yn ≤ lc ∧ lc ≤ 9223372036854775807 := ⟨by rw [HYN.out]; exact HL.out.rd.1, HL.out.rd.2.1⟩
                  have hGB : rn1 + yn ≤ 100000 ∧ (growP leaf k f' true rn1 (rn1 + yn) ⟨(RL1 ++ YS).map Ra.pr, NL1.map pn⟩).R.length ≤ 100000 ∧ (growP leaf k f' true rn1 (rn1 + yn) ⟨(RL1 ++ YS).map Ra.pr, NL1.map pn⟩).N.length ≤ 100000000 ∧ G = ⟨(growP leaf k f' true rn1 (rn1 + yn) ⟨(RL1 ++ YS).map Ra.pr, NL1.map pn⟩).R, setKids (growP leaf k f' true rn1 (rn1 + yn) ⟨(RL1 ++ YS).map Ra.pr, NL1.map pn⟩).N n (KL ++ [(-1, NL1.length)])⟩ := by
                    have h1 := HBR.out
                    have h2 := HBN.out
                    have h3 := HG.out
                    rw [HGK2.out] at h3
                    simp only [Bool.false_eq_true, if_false] at h3
                    rw [← HL2.out, HSC.out] at h3
                    dsimp only at h3
                    rw [← List.map_append, List.length_map, List.length_map, List.length_map, ← HRN1.out, ← HYN.out, HS0N.out.1] at h3
                    have h4 := grow_le leaf k f' true rn1 (rn1 + yn) ⟨(RL1 ++ YS).map Ra.pr, NL1.map pn⟩
                    obtain ⟨⟨⟨E, h5⟩, -⟩, -⟩ := h4
                    generalize growP leaf k f' true rn1 (rn1 + yn) ⟨(RL1 ++ YS).map Ra.pr, NL1.map pn⟩ = TT at *
                    rw [h3] at h1 h2
                    dsimp only at h1 h2
                    rw [setKids_len] at h2
                    have h6 := congrArg List.length h5
                    simp at h6
                    refine ⟨?_, h1, h2, h3⟩
                    have h7 := HRN1.out
                    have h8 := HYN.out
                    omega
                  have HGB := Lib.hid hGB.2
                  have hrm := hGB.1
                  obtain ⟨sm, hsm⟩ : ∃ sm, sm = rn1 + yn := ⟨_, rfl⟩
                  have HSM := Lib.hid hsm
                  have HB8 : Hid (B ≤ wt.heap.size) := Lib.hid (Nat.le_trans HBW.out HK8.out.size)
                  clear hGB
                  go_upto_region 25 with first
                    | (at_builtin; refine wpList_appS ralies rfl (.tmp 155) (.tmp 156) 50 50 rfl B 34 (.agg #[.slice none 0 0, .int .i64 0, .slice none 0 0, .slice none 0 0, .slice none 0 0]) 104 Try.underlying50 infoRecA rfl (some ⟨ga, 0, none⟩) rc1 rn1 RL1 HRN1.out YS _ yn HYN.out rfl rfl HTT.out.recs (by rw [HYN.out]; exact src_rdS ralies HRD2.out Try.underlying50) (by omega) (by omega) HB8.out ?_; intro ra9 rc9 w9 hr9 kp9 hob9 _; have ht9 := kp9.get HTT.out.blk (own_ne HTT.out.recs HTT.out.blk rNe.1); have c3 : w9.cell? ⟨T, 2, none⟩ = some (.slice (some ⟨ga, 0, none⟩) rn1 rc1) := (by rw [cell_of_row w9 T 2 _ _ _ ht9, HRN1.out]; rfl); have f3 := frozen_of_row w9 T 2 _ _ ht9; have HR9 := Lib.hid hr9; have KP9 := Lib.hid kp9; have HT9 := Lib.hid ht9; have HOB9 := Lib.hid hob9; clear hr9 kp9 ht9 hob9)
                  rw [← hsm]
                  have ht10 : (w9.setCell ⟨T, 2, none⟩ (.slice ra9 sm rc9)).heap[T]? = some (.cells (rtC k leaf ra9 (RL1 ++ YS).length rc9 n1 NL1.length nc1') 53 (0, 0)) := by
                    rw [heap_setCell_same w9 T 2 _ _ _ HT9.out, List.length_append, ← HRN1.out, ← HYN.out, hsm]; rfl
                  have k10 : Kp [T] w9 (w9.setCell ⟨T, 2, none⟩ (.slice ra9 sm rc9)) := (Kp.refl [T] w9).setCell _ _ (by simp)
                  generalize w9.setCell ⟨T, 2, none⟩ (.slice ra9 sm rc9) = w10 at *
                  have HT10 := Lib.hid (HTT.out.addRecs KP9.out HR9.out HGD2.out k10 ht10)
                  have hk10 : Kp F w w10 := ((HKF.out.trans HK8.out (U := F) (fun b hb => .inl hb) (by simp)).trans KP9.out (fun b hb => .inl hb) (fun b hb => HFR.out b (by unfold frT; simp [hb]))).trans k10 (fun b hb => .inl hb) (fun b hb => HFR.out b (by unfold frT; simp at hb; simp [hb]))
                  have hfr10 : ∀ b ∈ frT T ra9 rc9 n1 nc1', b ∈ F ∨ w.heap.size ≤ b := by
                    intro b hb
                    unfold frT at hb
                    rcases List.mem_cons.1 hb with rfl | hb
                    · exact HFR.out b (by unfold frT; simp)
                    · rcases List.mem_append.1 hb with hb | hb
                      · rcases HOB9.out b hb with h | h
                        · exact HFR.out b (by unfold frT; simp [h])
                        · exact .inr (Nat.le_trans (Nat.le_trans HKF.out.size HK8.out.size) h)
                      · exact HFR.out b (by unfold frT; simp [hb])
                  have hko10 : OwnS kdcells 2 w10 w.heap.size 44 ka kc KL := by
                    have h1 := HKO.out.keep0 HK8.out
                    have h2 := h1.keep KP9.out (ownApart h1 HTT.out.recs (fun e => rNe.2.2.2.2.1 e.symm))
                    exact h2.keep k10 (fun b hb hb2 => by simp at hb2; subst hb2; exact own_ne h2 HT9.out rNe.2.2.1 hb)
                  have HK10 := Lib.hid hk10
                  have HFR10 := Lib.hid hfr10
                  have HKO10 := Lib.hid hko10
                  have HSMR : Hid (sm = (RL1 ++ YS).length) := Lib.hid (by rw [List.length_append, ← HRN1.out, ← HYN.out, hsm])
                  obtain ⟨-, -, c10, -, -, -⟩ := HT10.out.cell
                  rw [← HSMR.out] at c10
                  clear ht10 k10 hk10 hfr10 hko10 HT9 HR9 KP9 HOB9 hwe hsm
                  go_wp2_with fail
                  refine (HIH2.out true d1 rn1 sm T (fun b => X b ∨ b ∈ ob ka kc) ra9 rc9 (RL1 ++ YS) n1 nc1' NL1 w10 (by have := HD1.out; omega) (by have := HSM.out; omega) (by have := HSMR.out; omega) HT10.out (fun b hb => by
                    rcases hb with hb | hb
                    · exact Nat.lt_of_lt_of_le (HX.out b hb) HK10.out.size
                    · exact (HKO10.out.ob_ge b hb).2) (by rw [HSM.out]; exact HGB.out.1) (by rw [HSM.out]; exact HGB.out.2.1)).mono ?_
                  rintro e7 w11 ⟨rfl, hin11⟩
                  rw [HSM.out] at hin11
                  have HIN11 := Lib.hid (hin11.tr HFR10.out HK10.out)
                  have HKO11 : Hid (OwnS kdcells 2 w11 w.heap.size 44 ka kc KL) := Lib.hid (by
                    obtain ⟨_, _, _, _, _, _, -, -, -, h4⟩ := hin11
                    exact HKO10.out.keep h4 (HT10.out.apart HKO10.out rNe.2.2.1 (fun e => rNe.2.2.2.2.1 e.symm) (fun e => rNe.2.2.2.2.2 e.symm)))
                  have HSZ11 : Hid (w.heap.size ≤ w11.heap.size) := Lib.hid (by
                    obtain ⟨_, _, _, _, _, _, -, -, -, h4⟩ := HIN11.out
                    exact h4.size)
                  have HNL : Hid (n < (growP leaf k f' true rn1 (rn1 + yn) ⟨(RL1 ++ YS).map Ra.pr, NL1.map pn⟩).N.length) := Lib.hid (by
                    have h1 := (grow_le leaf k f' true rn1 (rn1 + yn) ⟨(RL1 ++ YS).map Ra.pr, NL1.map pn⟩).2
                    have h2 := HNS.out
                    rw [HSC.out] at h2
                    exact Nat.lt_trans h2 h1)
                  obtain ⟨kn, hkn⟩ : ∃ kn, kn = KL.length := ⟨_, rfl⟩
                  rw [← hkn] at hkl ⊢
                  have HKN := Lib.hid hkn
                  clear hin11 hkn
                  go_wp2_with (at_builtin; refine wpList_appS kdlies rfl (.tmp 170) (.tmp 173) 38 38 rfl w.heap.size 44 (.agg #[.int .i64 0, .int .i64 0]) 16 Try.underlying38 infoKid rfl ka kc kn KL HKN.out [(-1, NL1.length)] _ 1 rfl rfl rfl (HKO11.out.alloc _) (src_oneS kdlies Try.underlying38 (heap_alloc_at rfl)) (by omega) (by omega) (by have := HSZ11.out; simp only [World.size_alloc]; omega) ?_; intro ka8 kc8 w12 ho8 kp8 hob8 _; have HIN12 := Lib.hid ((HIN11.out.keep0 ((Kp.refl [] w11).alloc _)).kids (HKO11.out.alloc _) (Nat.le_refl _) kp8 hob8); have HO12 := Lib.hid ho8; clear ho8 kp8 hob8)
                  go_meet
                  exact ⟨ka8, kc8, KL ++ [(-1, NL1.length)], _, by rw [List.length_append, ← HKN.out]; rfl, Lib.hid HGB.out.2.2, HIN12, HO12, HNL⟩
            · go_wp2_with fail
              go_meet
              exact ⟨ka, kc, KL, Sc, rfl, Lib.hid (by rw [HG.out, HGK2.out, HS0N.out.1]; rfl), HTI, HKO, HNS⟩
          obtain ⟨ka, kc, KL, Sf, rfl, HGF, HTF, HKF, HNF⟩ := hcut
          obtain ⟨wy, rfl⟩ : ∃ wy : World, wy = wc := ⟨_, rfl⟩
          obtain ⟨r1, rc1, RL1, n1, nc1', NL1, ht, hSf, hfr, hkf⟩ := HTF.out
          have hnl : n < NL1.length := by have := HNF.out; rw [hSf] at this; simpa using this
          obtain ⟨-, -, -, c4, -, -⟩ := ht.cell
          obtain ⟨y, hy⟩ : ∃ y : Nh, y = ⟨NL1[n].d, NL1[n].f, NL1[n].t, ka, KL.length, kc, KL⟩ := ⟨_, rfl⟩
          obtain ⟨gn, hgn, hgm, hgB, ⟨u, c43⟩, f43, hown, hkp⟩ := ht.nodes.put1 nlies hnl y 3 (.slice ka KL.length kc) (by omega) (by rw [hy]; rfl)
          subst hgn
          have HFIN : Hid (RTreeIn T k mt leaf B X F w G (wy.setCell ⟨gn, n * 4 + 3, none⟩ (.slice ka KL.length kc))) := Lib.hid (by
            have h4 := ht.more (Y := X) (fun b hb => .inl (.inl hb))
            have h5 := h4.setKids hnl hgm hkp hown (by
              rw [hy]
              exact ⟨rfl, HKF.out.mono HSW.out.2, fun b hb hx => by have h6 := (HKF.out.ob_ge b hb).1; have h7 := HX.out b hx; omega⟩)
            refine ⟨_, _, _, _, _, _, h5, ?_, hfr, hkf.trans hkp (fun b hb => .inl hb) (fun b hb => ?_)⟩
            · rw [HGF.out, hSf]
              unfold setKids
              rw [List.map_set]
              have e : (NL1.map pn).getD n default = pn NL1[n] := by
                rw [List.getD_eq_getElem?_getD, List.getElem?_map, List.getElem?_eq_getElem hnl]; rfl
              rw [e, hy]; rfl
            · simp at hb; subst hb
              exact hfr _ (by unfold frT; simp [hgm]))
          obtain ⟨nl, hnlq⟩ : ∃ nl, nl = NL1.length := ⟨_, rfl⟩
          rw [← hnlq] at c4 hnl
          clear ht hSf hfr hkf hy hown hkp hgm hgB hnlq
          go_wp2_with fail
          go_ret
          exact ⟨rfl, HFIN.out⟩
theorem r19Grow_any (k mt leaf B : Nat) (hk : k ≤ 8) (hmt : mt ≤ 1000) (hl1 : 1 ≤ leaf) (hl2 : leaf ≤ 1000000) : ∀ f, GrowA k mt leaf B f
  | 0 => growA_step k mt leaf B 0 hk hmt hl1 hl2 (fun f' h => by cases h)
  | f + 1 => growA_step k mt leaf B (f + 1) hk hmt hl1 hl2 (fun f' h => by cases h; exact r19Grow_any k mt leaf B hk hmt hl1 hl2 f)
end Go.Proofs.Ythmaobmgogmaoaa
