/-
  Star-trees: growing, walked.
-/
import Derived.Test.YthmaobmgogmaoaaStaG
namespace Go.Proofs.Ythmaobmgogmaoaa
open Go.RowKit Go.Shelf
set_option linter.unusedSimpArgs false
set_option linter.unusedVariables false
set_option maxRecDepth 100000

/-- What a call to grow does. -/
def GrowOk (k mt leaf B f : Nat) : Prop := ∀ (st : Bool) (d p q T : Nat) (X : Nat → Prop) (ra : Option Addr) (rc : Nat) (RL : List Rc) (na : Option Addr) (nc : Nat) (NL : List Nh) (w : World),
  d + f = k → p ≤ q → q ≤ RL.length → TreeH T k mt leaf B X ra rc RL na nc NL w → (∀ b, X b → b < w.heap.size) →
  (growP leaf k f st p q ⟨RL.map (pr k), NL.map pn⟩).R.length ≤ 100000 → (growP leaf k f st p q ⟨RL.map (pr k), NL.map pn⟩).N.length ≤ 100000000 →
  Calls Try.prog 37 #[.pointer (some ⟨T, 0, none⟩), .int .i64 (d : Int), .int .i64 (p : Int), .int .i64 (q : Int), .bool st] w fun e w' => e = .returned (.int .i64 ((NL.length : Nat) : Int)) ∧ TreeIn T k mt leaf B X (frT T ra rc na nc) w (growP leaf k f st p q ⟨RL.map (pr k), NL.map pn⟩) w'

theorem leafP {leaf k f d p q : Nat} {st : Bool} {S : St} (hd : d + f = k) (h : d = k ∨ q - p ≤ leaf) : growP leaf k f st p q S = ⟨S.R, S.N ++ [⟨d, p, q, []⟩]⟩ := by
  cases f with
  | zero => unfold growP; rw [show d = k by omega]
  | succ f =>
    unfold growP
    rw [if_pos (by omega), show k - (f + 1) = d by omega]

/-- A node with kids. -/
theorem growP_kids {leaf k f d p q : Nat} {st : Bool} {S S1 : St} (hd : d + (f + 1) = k) (h : ¬ q - p ≤ leaf) (hS : S1 = ⟨S.R, S.N ++ [⟨d, p, q, []⟩]⟩) :
    growP leaf k (f + 1) st p q S = if st then ⟨(kidsP (fun a e T => growP leaf k f st a e T) S.R d q (q - p) p S1 []).1.R, setKids (kidsP (fun a e T => growP leaf k f st a e T) S.R d q (q - p) p S1 []).1.N S.N.length (kidsP (fun a e T => growP leaf k f st a e T) S.R d q (q - p) p S1 []).2⟩
      else ⟨(growP leaf k f true (kidsP (fun a e T => growP leaf k f st a e T) S.R d q (q - p) p S1 []).1.R.length ((kidsP (fun a e T => growP leaf k f st a e T) S.R d q (q - p) p S1 []).1.R.length + (starRecs (kidsP (fun a e T => growP leaf k f st a e T) S.R d q (q - p) p S1 []).1.R d p q).length) ⟨(kidsP (fun a e T => growP leaf k f st a e T) S.R d q (q - p) p S1 []).1.R ++ starRecs (kidsP (fun a e T => growP leaf k f st a e T) S.R d q (q - p) p S1 []).1.R d p q, (kidsP (fun a e T => growP leaf k f st a e T) S.R d q (q - p) p S1 []).1.N⟩).R,
        setKids (growP leaf k f true (kidsP (fun a e T => growP leaf k f st a e T) S.R d q (q - p) p S1 []).1.R.length ((kidsP (fun a e T => growP leaf k f st a e T) S.R d q (q - p) p S1 []).1.R.length + (starRecs (kidsP (fun a e T => growP leaf k f st a e T) S.R d q (q - p) p S1 []).1.R d p q).length) ⟨(kidsP (fun a e T => growP leaf k f st a e T) S.R d q (q - p) p S1 []).1.R ++ starRecs (kidsP (fun a e T => growP leaf k f st a e T) S.R d q (q - p) p S1 []).1.R d p q, (kidsP (fun a e T => growP leaf k f st a e T) S.R d q (q - p) p S1 []).1.N⟩).N S.N.length ((kidsP (fun a e T => growP leaf k f st a e T) S.R d q (q - p) p S1 []).2 ++ [(-1, (kidsP (fun a e T => growP leaf k f st a e T) S.R d q (q - p) p S1 []).1.N.length)])⟩ := by
  subst hS
  conv => lhs; unfold growP
  rw [if_neg h, show k - (f + 1) = d by omega]

set_option maxHeartbeats 6400000 in
theorem grow_step (k mt leaf B f : Nat) (hk : k ≤ 8) (hmt : mt ≤ 1000) (hl1 : 1 ≤ leaf) (hl2 : leaf ≤ 1000000) (ih : ∀ f', f = f' + 1 → GrowOk k mt leaf B f') : GrowOk k mt leaf B f := by
  intro st d p q T X ra rc RL na nc NL w hd hpq hq htree hX hbR hbN
  obtain ⟨S0, hS0⟩ : ∃ S0, S0 = (⟨RL.map (pr k), NL.map pn⟩ : St) := ⟨_, rfl⟩
  rw [← hS0] at hbR hbN ⊢
  obtain ⟨F, hF⟩ : ∃ F, F = frT T ra rc na nc := ⟨_, rfl⟩
  rw [← hF]
  have HLE := Lib.hid (grow_le leaf k f st p q S0)
  obtain ⟨G, hG⟩ : ∃ G, G = growP leaf k f st p q S0 := ⟨_, rfl⟩
  rw [← hG] at hbR hbN HLE ⊢
  have HG := Lib.hid hG
  have HF := Lib.hid hF
  have HS0 := Lib.hid hS0
  have HIH := Lib.hid ih
  have HX := Lib.hid hX
  have HBR := Lib.hid hbR
  have HBN := Lib.hid hbN
  have HT := Lib.hid htree
  have HB0 := Lib.hid htree.base
  obtain ⟨n, hn⟩ : ∃ n, n = NL.length := ⟨_, rfl⟩
  obtain ⟨rn, hrn⟩ : ∃ rn, rn = RL.length := ⟨_, rfl⟩
  rw [← hn]
  rw [← hrn] at hq
  have HN := Lib.hid hn
  have HRN := Lib.hid hrn
  have hnb : n ≤ 100000000 := by have h1 := HLE.out.2; rw [hS0] at h1; simp at h1; rw [hn]; omega
  have hrb : rn ≤ 100000 := by
    obtain ⟨⟨⟨E, h1⟩, -⟩, -⟩ := HLE.out
    have := congrArg List.length h1
    rw [hS0] at this
    simp at this; rw [hrn]; omega
  clear ih hX hbR hbN htree hF hS0 hG
  obtain ⟨c0, c2, c3, c4, f3, f4⟩ := HT.out.cell
  rw [← hn] at c4
  rw [← hrn] at c3
  have hwe : IntKind.i64.wrap ((q : Int) - (p : Int)) = ((q - p : Nat) : Int) := by rw [IntWalk.i64_in _ (by omega)]; omega
  obtain ⟨sz, hsz⟩ : ∃ sz, sz = q - p := ⟨_, rfl⟩
  rw [← hsz] at hwe
  have HSZ := Lib.hid hsz
  obtain ⟨d1, hd1⟩ : ∃ d1, d1 = d + 1 := ⟨_, rfl⟩
  have hwn : IntKind.i64.wrap ((d : Int) + 1) = (d1 : Int) := by rw [IntWalk.i64_in _ (by omega)]; omega
  have HD1 := Lib.hid hd1
  have HSW : Hid (T < w.heap.size ∧ B ≤ w.heap.size) := Lib.hid ⟨HT.out.lt, by have h1 := HT.out.lt; have h2 := HB0.out; omega⟩
  clear hn hrn hsz hd1
  go_enter Try.func37, Try.ntmps37
  go_upto_region 3 with first
    | (at_builtin; refine wpList_appS nlies rfl (.tmp 28) (.tmp 33) 51 51 rfl B 40 (.agg #[.int .i64 0, .int .i64 0, .int .i64 0, .slice none 0 0]) 48 Try.underlying51 infoNode rfl na nc n NL HN.out [⟨d, p, q, none, 0, 0, []⟩] _ 1 rfl rfl rfl (HT.out.nodes.alloc _) (src_oneS nlies Try.underlying51 (heap_alloc_at rfl)) (by omega) (by omega) (by have := HSW.out; simp only [World.size_alloc]; omega) ?_; intro na1 nc1 w1 hn1 kp1 hob1 _; have hkw1 : Kp (ob na nc) w w1 := ((Kp.refl [] w).alloc _).trans kp1 (by simp) (fun b hb => .inl hb); have ht1 := hkw1.get HT.out.blk (own_ne HT.out.nodes HT.out.blk tNe.2.1); have c4 : w1.cell? ⟨T, 4, none⟩ = some (.slice na n nc) := (by rw [cell_of_row w1 T 4 _ _ _ ht1, HN.out]; rfl); have f4 := frozen_of_row w1 T 4 _ _ ht1; have HN1 := Lib.hid hn1; have HKW1 := Lib.hid hkw1; have HT1 := Lib.hid ht1; have HOB1 := Lib.hid hob1; clear hn1 kp1 hkw1 ht1 hob1)
  have ht2 : (w1.setCell ⟨T, 4, none⟩ (.slice na1 (n + 1) nc1)).heap[T]? = some (.cells (treeC k mt leaf ra RL.length rc na1 (NL ++ [(⟨d, p, q, none, 0, 0, []⟩ : Nh)]).length nc1) 59 (0, 0)) := by
    rw [heap_setCell_same w1 T 4 _ _ _ HT1.out, List.length_append, ← HN.out]; rfl
  have k2 : Kp [T] w1 (w1.setCell ⟨T, 4, none⟩ (.slice na1 (n + 1) nc1)) := (Kp.refl [T] w1).setCell _ _ (by simp)
  generalize w1.setCell ⟨T, 4, none⟩ (.slice na1 (n + 1) nc1) = w2 at *
  have htr2 := HT.out.addNode (y := ⟨d, p, q, none, 0, 0, []⟩) HKW1.out HN1.out ⟨rfl, rfl, rfl⟩ k2 ht2
  have hKF : Kp F w w2 := by
    rw [HF.out]
    exact HKW1.out.trans k2 (fun b hb => .inl (by unfold frT; simp [hb])) (fun b hb => .inl (by unfold frT; simp at hb; simp [hb]))
  have hFR : ∀ b ∈ frT T ra rc na1 nc1, b ∈ F ∨ w.heap.size ≤ b := by
    intro b hb
    rw [HF.out]
    unfold frT at hb ⊢
    rcases List.mem_cons.1 hb with rfl | hb
    · exact .inl (by simp)
    · rcases List.mem_append.1 hb with hb | hb
      · exact .inl (by simp [hb])
      · rcases HOB1.out b hb with h | h
        · exact .inl (by simp [h])
        · exact .inr (by simpa using Nat.le_trans (by simp) h)
  obtain ⟨S1, hS1⟩ : ∃ S1, S1 = (⟨S0.R, S0.N ++ [⟨d, p, q, []⟩]⟩ : St) := ⟨_, rfl⟩
  have HIN2 : Hid (TreeIn T k mt leaf B X F w S1 w2) := Lib.hid ⟨ra, rc, RL, na1, nc1, _, htr2, by rw [hS1, HS0.out, List.map_append]; rfl, hFR, hKF⟩
  have HS1 := Lib.hid hS1
  have HS0N : Hid (S0.N.length = n ∧ S0.R.length = rn) := Lib.hid (by rw [HS0.out, HN.out, HRN.out]; simp)
  obtain ⟨c0, c2, -, -, -, -⟩ := htr2.cell
  clear ht2 k2 htr2 hKF hFR hS1 HKW1 HN1 HT1 HOB1
  by_cases hdk : d = k
  · have hb : ((d : Int) == (k : Int)) = true := by simp [hdk]
    have HP := Lib.hid (leafP (leaf := leaf) (p := p) (q := q) (st := st) (S := S0) hd (.inl hdk))
    go_wp2_with fail
    go_ret
    exact ⟨rfl, by rw [HG.out, HP.out, ← HS1.out]; exact HIN2.out⟩
  · have hb : ((d : Int) == (k : Int)) = false := by simp; omega
    by_cases hsl : (sz : Int) ≤ (leaf : Int)
    · have HP := Lib.hid (leafP (leaf := leaf) (p := p) (q := q) (st := st) (S := S0) hd (.inr (by have := HSZ.out; omega)))
      go_wp2_with fail
      go_ret
      exact ⟨rfl, by rw [HG.out, HP.out, ← HS1.out]; exact HIN2.out⟩
    · obtain ⟨f', rfl⟩ : ∃ f', f = f' + 1 := ⟨f - 1, by omega⟩
      have HGK := Lib.hid (growP_kids (leaf := leaf) (st := st) (p := p) (q := q) hd (by have := HSZ.out; omega) HS1.out)
      have HIH2 := Lib.hid (HIH.out f' rfl)
      obtain ⟨r, hr⟩ : ∃ r, r = kidsP (fun a e T => growP leaf k f' st a e T) S0.R d q (q - p) p S1 [] := ⟨_, rfl⟩
      rw [← hr] at HGK
      have HR := Lib.hid hr
      have HRLE : Hid (St.Le S1 r.1) := Lib.hid (by rw [hr]; exact kids_le (fun a e T => (grow_le leaf k f' st a e T).1) _ _ _ _ _ _ _)
      have HRB : Hid (r.1.R.length ≤ 100000 ∧ r.1.N.length ≤ 100000000) := Lib.hid (by
        have h1 := HBR.out
        have h2 := HBN.out
        rw [HG.out, HGK.out] at h1 h2
        cases st
        · simp only [Bool.false_eq_true, if_false, setKids_len] at h1 h2
          obtain ⟨⟨⟨E, h3⟩, h4⟩, -⟩ := grow_le leaf k f' true r.1.R.length (r.1.R.length + (starRecs r.1.R d p q).length) ⟨r.1.R ++ starRecs r.1.R d p q, r.1.N⟩
          rw [h3] at h1
          simp at h1 h4
          omega
        · simp only [if_true, setKids_len] at h1 h2
          exact ⟨h1, h2⟩)
      clear hr HIH
      go_wp2_with fail
      go_loopw [12, 13] (fun vk vi wr => ∃ (a : Nat) (ka : Option Addr) (kc : Nat) (KL : List (Int × Nat)) (Sc : St), p ≤ a ∧ a ≤ q ∧ vi = .int .i64 a ∧ vk = .slice ka KL.length kc ∧ KL.length ≤ a - p ∧ Hid (kidsP (fun a e T => growP leaf k f' st a e T) S0.R d q (q - a) a Sc KL = r) ∧ Hid (TreeIn T k mt leaf B (fun b => X b ∨ b ∈ ob ka kc) F w Sc wr) ∧ Hid (OwnS kdcells 2 wr w.heap.size 44 ka kc KL) ∧ Hid (St.Le S1 Sc)) (fun _ vi _ => q - (intOf vi).toNat)
      case atStart => exact ⟨p, none, 0, [], S1, Nat.le_refl _, hpq, rfl, rfl, Nat.zero_le _, Lib.hid HR.out.symm, Lib.hid (by
        obtain ⟨a1, a2, a3, a4, a5, a6, h1, h2, h3, h4⟩ := HIN2.out
        exact ⟨a1, a2, a3, a4, a5, a6, h1.more (fun b hb => by simp [ob] at hb; exact .inl hb), h2, h3, h4⟩), Lib.hid (OwnS.nil _ _ _ _ _), Lib.hid (St.Le.refl _)⟩
      case round =>
        obtain ⟨a, ka, kc, KL, Sc, hpa, haq, rfl, rfl, hkl, HKP, HTI, HKO, HSL⟩ := hrel
        obtain ⟨wi, rfl⟩ : ∃ wi : World, wi = wr := ⟨_, rfl⟩
        by_cases hlt : a < q
        · obtain ⟨r1, rc1, RL1, n1, nc1', NL1, ht, hSc, hfr, hkf⟩ := HTI.out
          have HSC := Lib.hid hSc
          have HFR := Lib.hid hfr
          have HKF := Lib.hid hkf
          have HTT := Lib.hid ht
          have hRL : q ≤ RL1.length := by
            obtain ⟨⟨E, h1⟩, -⟩ := HSL.out
            rw [hSc, HS1.out] at h1
            have h2 := congrArg List.length h1
            have h3 := HS0N.out.2
            simp at h2
            omega
          have HPRE : Hid (∀ j, j < q → idAt (RL1.map (pr k)) j d = idAt S0.R j d) := Lib.hid (fun j hj => by
            obtain ⟨⟨E, h1⟩, -⟩ := HSL.out
            rw [hSc, HS1.out] at h1
            dsimp only at h1
            rw [h1]
            exact idAt_append (by rw [HS0N.out.2]; omega))
          have HRLN := Lib.hid hRL
          obtain ⟨-, -, c3, -, -, -⟩ := ht.cell
          obtain ⟨ga, rfl, cid⟩ := ht.id (a := a) (d := d) (by omega) (by omega) hk
          rw [HPRE.out a hlt] at cid
          obtain ⟨rn1, hrn1⟩ : ∃ rn1, rn1 = RL1.length := ⟨_, rfl⟩
          rw [← hrn1] at c3
          have harn : a < rn1 := by omega
          have hqrn : q ≤ rn1 := by omega
          have hrnb : rn1 ≤ 100000 ∧ NL1.length ≤ 100000000 := by
            have h1 := kids_le (g := fun a e T => growP leaf k f' st a e T) (fun a e T => (grow_le leaf k f' st a e T).1) S0.R d q (q - a) a Sc KL
            rw [HKP.out] at h1
            obtain ⟨⟨E, h2⟩, h3⟩ := h1
            have h4 := congrArg List.length h2
            have h5 := HRB.out
            rw [hSc] at h3 h4
            simp at h3 h4
            omega
          obtain ⟨id, hid⟩ : ∃ id, id = idAt S0.R a d := ⟨_, rfl⟩
          rw [← hid] at cid
          have HID := Lib.hid hid
          have HRN1 := Lib.hid hrn1
          have hd8 : d < 8 := by omega
          clear hSc hfr hkf ht hRL hid hrn1
          obtain ⟨E, hE⟩ : ∃ E, E = runEnd S0.R d id (q - a) a := ⟨_, rfl⟩
          have HE := Lib.hid hE
          have HEB : Hid (a < E ∧ E ≤ q) := Lib.hid (by
            rw [hE, HID.out]
            have h1 := runEnd_gt S0.R d (q - a) a (by omega)
            have h2 := (runEnd_bd S0.R d (idAt S0.R a d) (q - a) a).2
            omega)
          clear hE
          go_wp2_with fail
          go_loopw [15] (fun ve wr => ∃ e : Nat, a ≤ e ∧ e ≤ q ∧ ve = .int .i64 e ∧ Hid (runEnd S0.R d id (q - e) e = E) ∧ wr = wi) (fun ve _ => q - (intOf ve).toNat)
          case atStart => exact ⟨a, Nat.le_refl _, haq, rfl, Lib.hid HE.out.symm, rfl⟩
          case round =>
            obtain ⟨e, hae, heq, rfl, HRE, rfl⟩ := hrel
            go_upto_region 10 with (fail)
            go_cut [85] (fun v85 wx => ∃ b : Bool, v85 = .bool b ∧ Hid (b = true → e < q ∧ runEnd S0.R d id (q - (e + 1)) (e + 1) = E) ∧ Hid (b = false → E = e) ∧ wx = wr)
            case first =>
              by_cases heq2 : e < q
              · obtain ⟨g', hg', cie⟩ := HTT.out.id (a := e) (d := d) (by have := HRLN.out; omega) (by omega) hk
                cases hg'
                rw [HPRE.out e heq2] at cie
                obtain ⟨-, -, c3, -, -, -⟩ := HTT.out.cell
                rw [← HRN1.out] at c3
                have hern : e < rn1 := by omega
                have HS : Hid (E = if idAt S0.R e d = id then runEnd S0.R d id (q - (e + 1)) (e + 1) else e) := Lib.hid (by
                  rw [← HRE.out, show q - e = (q - (e + 1)) + 1 by omega]
                  rfl)
                by_cases hsame : idAt S0.R e d = id
                · have HS2 := Lib.hid (HS.out.trans (if_pos hsame))
                  rw [hsame] at cie
                  have hbb : ((id : Int) == (id : Int)) = true := by simp
                  clear hsame HS
                  go_wp2_with fail
                  go_meet
                  exact ⟨true, rfl, Lib.hid (fun _ => ⟨heq2, HS2.out.symm⟩), Lib.hid (fun h => by cases h), rfl⟩
                · have HS2 := Lib.hid (HS.out.trans (if_neg hsame))
                  obtain ⟨id2, hid2⟩ : ∃ id2, id2 = idAt S0.R e d := ⟨_, rfl⟩
                  rw [← hid2] at cie hsame
                  have hbb : ((id2 : Int) == (id : Int)) = false := by simpa using hsame
                  clear hsame hid2 HS
                  go_wp2_with fail
                  go_meet
                  exact ⟨false, rfl, Lib.hid (fun h => by cases h), Lib.hid (fun _ => HS2.out), rfl⟩
              · obtain rfl : e = q := by omega
                have HS2 : Hid (E = e) := Lib.hid (by rw [← HRE.out, Nat.sub_self]; rfl)
                go_wp2_with fail
                go_meet
                exact ⟨false, rfl, Lib.hid (fun h => by cases h), Lib.hid (fun _ => HS2.out), rfl⟩
            obtain ⟨b, rfl, HBT, HBF, rfl⟩ := hcut
            cases b
            · obtain rfl : E = e := HBF.out rfl
              have HKP2 : Hid (kidsP (fun a e T => growP leaf k f' st a e T) S0.R d q (q - E) E (growP leaf k f' st a E Sc) (KL ++ [(id, NL1.length)]) = r) := Lib.hid (by
                have h1 := kids_step (g := fun a e T => growP leaf k f' st a e T) (R := S0.R) (d := d) (S := Sc) (ks := KL) hlt
                rw [HKP.out] at h1
                rw [h1, ← HID.out, ← HE.out, HSC.out]
                simp)
              have HB2 : Hid ((growP leaf k f' st a E ⟨RL1.map (pr k), NL1.map pn⟩).R.length ≤ 100000 ∧ (growP leaf k f' st a E ⟨RL1.map (pr k), NL1.map pn⟩).N.length ≤ 100000000) := Lib.hid (by
                have h1 := kids_le (g := fun a e T => growP leaf k f' st a e T) (fun a e T => (grow_le leaf k f' st a e T).1) S0.R d q (q - E) E (growP leaf k f' st a E Sc) (KL ++ [(id, NL1.length)])
                rw [HKP2.out] at h1
                obtain ⟨⟨E2, h2⟩, h3⟩ := h1
                have h4 := congrArg List.length h2
                have h5 := HRB.out
                rw [HSC.out] at h3 h4
                simp only [List.length_append] at h4
                omega)
              clear HBT HBF
              go_wp2_with fail
              refine (HIH2.out st d1 a E T (fun b => X b ∨ b ∈ ob ka kc) (some ⟨ga, 0, none⟩) rc1 RL1 n1 nc1' NL1 wc (by have := HD1.out; omega) (by have := HEB.out; omega) (by have := HRLN.out; have := HEB.out; omega) HTT.out (fun b hb => by
                rcases hb with hb | hb
                · exact Nat.lt_of_lt_of_le (HX.out b hb) HKF.out.size
                · exact (HKO.out.ob_ge b hb).2) HB2.out.1 HB2.out.2).mono ?_
              rintro e7 w7 ⟨rfl, hin7⟩
              have HIN7 := Lib.hid (hin7.tr HFR.out HKF.out)
              have HKO7 : Hid (OwnS kdcells 2 w7 w.heap.size 44 ka kc KL) := Lib.hid (by
                obtain ⟨_, _, _, _, _, _, -, -, -, h4⟩ := hin7
                exact HKO.out.keep h4 (HTT.out.apart HKO.out tNe.2.2.1 (fun e => tNe.2.2.2.2.2.1 e.symm) (fun e => tNe.2.2.2.2.2.2.1 e.symm)))
              have HSZ7 : Hid (w.heap.size ≤ w7.heap.size) := Lib.hid (by
                obtain ⟨_, _, _, _, _, _, -, -, -, h4⟩ := HIN7.out
                exact h4.size)
              have HSL7 : Hid (St.Le S1 (growP leaf k f' st a E ⟨RL1.map (pr k), NL1.map pn⟩)) := Lib.hid (by
                rw [← HSC.out]; exact HSL.out.trans (grow_le leaf k f' st a E Sc).1)
              obtain ⟨kn, hkn⟩ : ∃ kn, kn = KL.length := ⟨_, rfl⟩
              rw [← hkn] at hkl ⊢
              have HKN := Lib.hid hkn
              clear hin7 hkn
              go_wp2_with (at_builtin; refine wpList_appS kdlies rfl (.tmp 88) (.tmp 98) 38 38 rfl w.heap.size 44 (.agg #[.int .i64 0, .int .i64 0]) 16 Try.underlying38 infoKid rfl ka kc kn KL HKN.out [(id, NL1.length)] _ 1 rfl rfl rfl (HKO7.out.alloc _) (src_oneS kdlies Try.underlying38 (heap_alloc_at rfl)) (by omega) (by omega) (by have := HSZ7.out; simp only [World.size_alloc]; omega) ?_; intro ka8 kc8 w8 ho8 kp8 hob8 _; have HIN8 := Lib.hid ((HIN7.out.keep0 ((Kp.refl [] w7).alloc _)).kids (HKO7.out.alloc _) (Nat.le_refl _) kp8 hob8); have HO8 := Lib.hid ho8; clear ho8 kp8 hob8)
              go_roundw
              case rel => exact ⟨E, ka8, kc8, KL ++ [(id, NL1.length)], growP leaf k f' st a E ⟨RL1.map (pr k), NL1.map pn⟩, by have := HEB.out; omega, by have := HEB.out; omega, rfl, by rw [List.length_append, ← HKN.out]; rfl, by have := HEB.out; rw [List.length_append, ← HKN.out]; simp; omega, Lib.hid (by rw [← HSC.out]; exact HKP2.out), HIN8, HO8, HSL7⟩
              case measure => have := HEB.out; simp [intOf]; omega
            · obtain ⟨h1, h2⟩ := HBT.out rfl
              have HS2 := Lib.hid h2
              clear h2 HBT HBF
              go_wp2_with fail
              go_roundw
              case rel => exact ⟨e + 1, by omega, h1, by go_num, HS2, trivial⟩
              case measure => simp [intOf]; omega
        · obtain rfl : a = q := by omega
          have hrr : (Sc, KL) = r := by have := HKP.out; rw [kids_end] at this; exact this
          obtain rfl := hrr.symm
          have HGK2 := Lib.hid HGK.out
          dsimp only at HGK2
          have HNS : Hid (n < Sc.N.length) := Lib.hid (by
            have h1 := HSL.out.2
            rw [HS1.out] at h1
            have h2 := HS0N.out.1
            simp at h1; omega)
          clear HGK hrr HKP HR HRLE
          go_upto_if 102 with (fail)
          go_cut [12] (fun v12 wx => ∃ (ka : Option Addr) (kc : Nat) (KL : List (Int × Nat)) (Sf : St), v12 = .slice ka KL.length kc ∧ Hid (G = ⟨Sf.R, setKids Sf.N n KL⟩) ∧ Hid (TreeIn T k mt leaf B (fun b => X b ∨ b ∈ ob ka kc) F w Sf wx) ∧ Hid (OwnS kdcells 2 wx w.heap.size 44 ka kc KL) ∧ Hid (n < Sf.N.length))
          case first =>
            cases st
            · obtain ⟨r1, rc1, RL1, n1, nc1', NL1, ht, hSc, hfr, hkf⟩ := HTI.out
              have hRL : a ≤ RL1.length := by
                obtain ⟨⟨E, h1⟩, -⟩ := HSL.out
                rw [hSc, HS1.out] at h1
                have h2 := congrArg List.length h1
                have h3 := HS0N.out.2
                simp at h2
                omega
              obtain ⟨-, -, c3, -, -, -⟩ := ht.cell
              have hlt : p < a := by have := HSZ.out; omega
              obtain ⟨ga, rfl, -⟩ := ht.id (a := p) (d := d) (by omega) (by omega) hk
              obtain ⟨rn1, hrn1⟩ : ∃ rn1, rn1 = RL1.length := ⟨_, rfl⟩
              rw [← hrn1] at c3
              have hqrn : a ≤ rn1 := by omega
              have hcap : rn1 ≤ rc1 := by rw [hrn1]; exact (ht.recs.rd rclies).1
              have hsl : ∀ wx, (Instr.slice 57 (.slice (some ⟨ga, 0, none⟩) rn1 rc1) (some (.int .i64 p)) (some (.int .i64 a)) none).run Try.prog wx = .ok (.slice (some ⟨ga, p * 10, none⟩) sz (rc1 - p)) wx := fun wx => by
                have := slice_recs (some ⟨ga, 0, none⟩) rn1 rc1 p a hlt hqrn hcap wx
                rw [this, HSZ.out]; simp [Addr.add_lit]
              obtain ⟨L0, hL0⟩ : ∃ L0, L0 = (RL1.take a).drop p := ⟨_, rfl⟩
              have hL0l : sz = L0.length := by rw [hL0, List.length_drop, List.length_take, HSZ.out]; omega
              have hrd0 : RdS Rc.cells 10 wi (some ⟨ga, p * 10, none⟩) (rc1 - p) L0 := by
                have h1 := ((ht.recs.rd rclies).head (b := a) (by omega)).tail (a := p) (by rw [List.length_take]; omega)
                rw [← hL0] at h1
                simpa [Addr.add_lit] using h1
              have hszb : sz ≤ 100000 ∧ rn1 ≤ 100000 := by
                have h1 := HRB.out.1
                rw [hSc] at h1
                simp at h1
                have := HSZ.out
                omega
              have HCL := Lib.hid (cloneR_any ⟨ga, p * 10, none⟩ (rc1 - p) sz L0 hL0l wi hrd0 (by omega))
              have HTW := Lib.hid ht
              have HSC := Lib.hid hSc
              have HFR := Lib.hid hfr
              have HKF := Lib.hid hkf
              have HRN1 := Lib.hid hrn1
              have HL0 := Lib.hid hL0
              have HL0L := Lib.hid hL0l
              have hpos : 0 < sz := by have := HSZ.out; omega
              have hd8 : d < 8 := by omega
              clear ht hSc hfr hkf hrn1 hL0 hL0l hrd0 hRL hcap
              go_wp2_with fail
              refine HCL.out.mono ?_
              rintro e w5 ⟨la, cc, rfl, hol, kp5⟩
              have hL0ne : L0 ≠ [] := by intro h; have := HL0L.out; rw [h] at this; simp at this; omega
              obtain ⟨gl, rfl, hgl, hgl2, hglm, -, hcc1, hcc2⟩ := dat_own hol hL0ne
              have HOL := Lib.hid hol
              have K5 := Lib.hid kp5
              have HGL : Hid (wi.heap.size ≤ gl ∧ L0 ≠ [] ∧ L0.length ≤ cc ∧ cc ≤ 9223372036854775807) := Lib.hid ⟨hgl, hL0ne, hcc1, hcc2⟩
              clear hol kp5 hgl hgl2 hglm hL0ne hcc1 hcc2 HCL c3
              go_wp2_with fail
              go_loopw [113] (fun vj wr => ∃ (j : Nat) (L : List Rc), j ≤ sz ∧ vj = .int .i64 j ∧ Hid (L = (L0.map (Rc.star d)).take j ++ L0.drop j) ∧ Hid (OwnS Rc.cells 10 wr wi.heap.size 82 (some ⟨gl, 0, none⟩) cc L) ∧ Hid (Kp [] wi wr)) (fun vj _ => sz - (intOf vj).toNat)
              case atStart => exact ⟨0, L0, Nat.zero_le _, rfl, Lib.hid rfl, HOL, K5⟩
              case round =>
                obtain ⟨j, L, hj, rfl, HL, HO, HK⟩ := hrel
                obtain ⟨wj, rfl⟩ : ∃ wj : World, wj = wr := ⟨_, rfl⟩
                by_cases hlj : j < sz
                · have hjl : j < L0.length := by rw [← HL0L.out]; exact hlj
                  have hLl : L.length = sz := by rw [HL.out]; have := HL0L.out; simp; omega
                  have hz2 : ((L0.map (Rc.star d)).take j).length = j := by rw [List.length_take, List.length_map]; omega
                  have hLj : L[j]'(by omega) = L0[j] := by
                    simp only [HL.out]
                    rw [List.getElem_append_right (by rw [hz2]; exact Nat.le_refl _)]
                    simp only [hz2, Nat.sub_self, List.getElem_drop, Nat.add_zero]
                  obtain ⟨gx, hgx, hm, hge, ⟨u, cu⟩, fu, hown, hkp⟩ := HO.out.put1 rclies (i := j) (by omega) (L0[j].star d) d (.int .i64 (-1)) (by omega) (by rw [hLj]; exact star_cells _ hd8)
                  cases hgx
                  have HST : Hid (L.set j (L0[j].star d) = (L0.map (Rc.star d)).take (j + 1) ++ L0.drop (j + 1)) := Lib.hid (by
                    simp only [HL.out]
                    rw [List.set_append_right _ _ (by rw [hz2]; exact Nat.le_refl _), hz2, Nat.sub_self, List.drop_eq_getElem_cons hjl, List.set_cons_zero, List.take_succ_eq_append_getElem (by rw [List.length_map]; exact hjl), List.getElem_map, List.append_assoc]
                    rfl)
                  have HO2 := Lib.hid hown
                  have HK2 : Hid (Kp [] wi (wj.setCell ⟨gl, j * 10 + d, none⟩ (.int .i64 (-1)))) := Lib.hid (HK.out.trans hkp (by simp) (fun b hb => by simp at hb; subst hb; exact .inr HGL.out.1))
                  clear hLl hz2 hLj hm hge hown hkp
                  go_wp2_with fail
                  go_roundw
                  case rel => exact ⟨j + 1, _, hlj, by go_num, HST, HO2, HK2⟩
                  case measure => simp [intOf]; omega
                · obtain rfl : j = sz := by omega
                  have hLe : L = L0.map (Rc.star d) := by
                    rw [HL.out, List.take_of_length_le (by rw [List.length_map, ← HL0L.out]; exact Nat.le_refl _), List.drop_eq_nil_of_le (by rw [← HL0L.out]; exact Nat.le_refl _), List.append_nil]
                  subst hLe
                  have hLne : L0.map (Rc.star d) ≠ [] := by intro h; exact HGL.out.2.1 (List.map_eq_nil_iff.1 h)
                  obtain ⟨gx, hgx, -, -, -, hdat, -, -⟩ := dat_own HO.out hLne
                  cases hgx
                  have HGD : Hid (∀ x0 ∈ L0, Good k mt B wi x0) := Lib.hid (fun x0 hx0 => HTW.out.good x0 (by
                    rw [HL0.out] at hx0; exact List.mem_of_mem_take (List.mem_of_mem_drop hx0)))
                  have HTG := Lib.hid (stTog_any gl j cc k mt (L0.map (Rc.star d)) (by rw [List.length_map, HL0L.out]) (by omega) (by rw [HL0L.out]; exact HGL.out.2.2.1) HGL.out.2.2.2 hk hmt (fun x hx => by
                    obtain ⟨x0, h0, rfl⟩ := List.mem_map.1 hx
                    obtain ⟨g1, g2, g3, g4⟩ := HGD.out x0 h0
                    refine ⟨fun t h1 h2 => ?_, g2, fun a' ha' hne hb => ?_⟩
                    · show (if t = d then -1 else x0.ids t) = 0
                      rw [if_neg (by omega)]; exact g1 t h1 h2
                    · rcases g4 with ⟨-, h⟩ | ⟨q', cur, h1, h2, h3, -⟩
                      · exact hne h
                      · have h4 : x0.sa = some a' := ha'
                        rw [h1] at h4
                        cases h4
                        have := lt_of_heap h3
                        have := HGL.out.1
                        simp at hb
                        omega) wj hdat (fun x hx => by
                    obtain ⟨x0, h0, rfl⟩ := List.mem_map.1 hx
                    exact ((HGD.out x0 h0).keep0 HK.out).rd))
                  clear hdat hLne HGD
                  go_wp2_with fail
                  refine HTG.out.mono ?_
                  rintro e w8 ⟨oa, oc, R2, rfl, ho2, hR2, hg2, kp8⟩
                  have hK8 : Kp [] wi w8 := HK.out.trans kp8 (by simp) (fun b hb => by simp at hb; subst hb; exact .inr HGL.out.1)
                  have HL2 : Hid (R2.map (pr k) = starRecs Sc.R d p a) := Lib.hid (by
                    rw [hR2, starRecs, HSC.out]
                    dsimp only
                    rw [← List.map_take, ← List.map_drop, ← HL0.out, List.map_map, List.map_map]
                    congr 1
                    refine List.map_congr_left fun x _ => ?_
                    exact star_pr x (by omega))
                  have HO2 := Lib.hid ho2
                  have HGD2 : Hid (∀ x ∈ R2, Good k mt B w8 x) := Lib.hid (fun x hx => by
                    obtain ⟨g1, g2, g3, g4⟩ := hg2 x hx
                    exact ⟨g1, g2, g3, g4.mono (by have h1 := HSW.out.2; have h2 := HKF.out.size; have h3 := HK.out.size; omega)⟩)
                  have ht8 := HTW.out.keep0 hK8
                  have HT8 := Lib.hid ht8
                  have HK8 := Lib.hid hK8
                  obtain ⟨-, -, c3, -, -, -⟩ := ht8.cell
                  rw [← HRN1.out] at c3
                  obtain ⟨m2, hm2⟩ : ∃ m2, m2 = R2.length := ⟨_, rfl⟩
                  rw [← hm2]
                  have HM2 := Lib.hid hm2
                  have hGB : rn1 + m2 ≤ 100000 ∧ (growP leaf k f' true rn1 (rn1 + m2) ⟨(RL1 ++ R2).map (pr k), NL1.map pn⟩).R.length ≤ 100000 ∧ (growP leaf k f' true rn1 (rn1 + m2) ⟨(RL1 ++ R2).map (pr k), NL1.map pn⟩).N.length ≤ 100000000 ∧ G = ⟨(growP leaf k f' true rn1 (rn1 + m2) ⟨(RL1 ++ R2).map (pr k), NL1.map pn⟩).R, setKids (growP leaf k f' true rn1 (rn1 + m2) ⟨(RL1 ++ R2).map (pr k), NL1.map pn⟩).N n (KL ++ [(-1, NL1.length)])⟩ := by
                    have h1 := HBR.out
                    have h2 := HBN.out
                    have h3 := HG.out
                    rw [HGK2.out] at h3
                    simp only [Bool.false_eq_true, if_false] at h3
                    rw [← HL2.out, HSC.out] at h3
                    dsimp only at h3
                    rw [← List.map_append, List.length_map, List.length_map, List.length_map, ← HRN1.out, ← hm2, HS0N.out.1] at h3
                    have h4 := grow_le leaf k f' true rn1 (rn1 + m2) ⟨(RL1 ++ R2).map (pr k), NL1.map pn⟩
                    obtain ⟨⟨⟨E, h5⟩, -⟩, -⟩ := h4
                    generalize growP leaf k f' true rn1 (rn1 + m2) ⟨(RL1 ++ R2).map (pr k), NL1.map pn⟩ = TT at *
                    rw [h3] at h1 h2
                    dsimp only at h1 h2
                    rw [setKids_len] at h2
                    have h6 := congrArg List.length h5
                    simp at h6
                    refine ⟨?_, h1, h2, h3⟩
                    have := HRN1.out
                    omega
                  have HGB := Lib.hid hGB.2
                  have hrm := hGB.1
                  have hwm : IntKind.i64.wrap ((rn1 : Int) + (m2 : Int)) = ((rn1 + m2 : Nat) : Int) := by rw [IntWalk.i64_in _ (by omega)]; omega
                  obtain ⟨sm, hsm⟩ : ∃ sm, sm = rn1 + m2 := ⟨_, rfl⟩
                  rw [← hsm] at hwm
                  have HSM := Lib.hid hsm
                  clear hm2 ho2 hR2 hg2 kp8 hK8 ht8 HTG hGB hsm
                  have HB8 : Hid (B ≤ w8.heap.size) := Lib.hid (by have h1 := HSW.out.2; have h2 := HKF.out.size; have h3 := HK8.out.size; omega)
                  go_upto_region 24 with first
                    | (at_builtin; refine wpList_appS rclies rfl (.tmp 134) (.tmp 135) 57 57 rfl B 82 (.agg #[.int .i64 0, .int .i64 0, .int .i64 0, .int .i64 0, .int .i64 0, .int .i64 0, .int .i64 0, .int .i64 0, .int .i64 0, .slice none 0 0]) 96 Try.underlying57 infoRec rfl (some ⟨ga, 0, none⟩) rc1 rn1 RL1 HRN1.out R2 _ m2 HM2.out rfl rfl HT8.out.recs (by rw [HM2.out]; exact src_rdS rclies (HO2.out.rd rclies) Try.underlying57) (by omega) (by omega) HB8.out ?_; intro ra9 rc9 w9 hr9 kp9 hob9 _; have ht9 := kp9.get HT8.out.blk (own_ne HT8.out.recs HT8.out.blk tNe.1); have c3 : w9.cell? ⟨T, 3, none⟩ = some (.slice (some ⟨ga, 0, none⟩) rn1 rc1) := (by rw [cell_of_row w9 T 3 _ _ _ ht9, HRN1.out]; rfl); have f3 := frozen_of_row w9 T 3 _ _ ht9; have HR9 := Lib.hid hr9; have KP9 := Lib.hid kp9; have HT9 := Lib.hid ht9; have HOB9 := Lib.hid hob9; clear hr9 kp9 ht9 hob9)
                  have ht10 : (w9.setCell ⟨T, 3, none⟩ (.slice ra9 (rn1 + m2) rc9)).heap[T]? = some (.cells (treeC k mt leaf ra9 (RL1 ++ R2).length rc9 n1 NL1.length nc1') 59 (0, 0)) := by
                    rw [heap_setCell_same w9 T 3 _ _ _ HT9.out, List.length_append, ← HRN1.out, ← HM2.out]; rfl
                  have k10 : Kp [T] w9 (w9.setCell ⟨T, 3, none⟩ (.slice ra9 (rn1 + m2) rc9)) := (Kp.refl [T] w9).setCell _ _ (by simp)
                  generalize w9.setCell ⟨T, 3, none⟩ (.slice ra9 (rn1 + m2) rc9) = w10 at *
                  have HT10 := Lib.hid (HT8.out.addRecs KP9.out HR9.out HGD2.out k10 ht10)
                  have hk10 : Kp F w w10 := ((HKF.out.trans HK8.out (U := F) (fun b hb => .inl hb) (by simp)).trans KP9.out (fun b hb => .inl hb) (fun b hb => HFR.out b (by unfold frT; simp [hb]))).trans k10 (fun b hb => .inl hb) (fun b hb => HFR.out b (by unfold frT; simp at hb; simp [hb]))
                  have hfr10 : ∀ b ∈ frT T ra9 rc9 n1 nc1', b ∈ F ∨ w.heap.size ≤ b := by
                    intro b hb
                    unfold frT at hb
                    rcases List.mem_cons.1 hb with rfl | hb
                    · exact HFR.out b (by unfold frT; simp)
                    · rcases List.mem_append.1 hb with hb | hb
                      · rcases HOB9.out b hb with h | h
                        · exact HFR.out b (by unfold frT; simp [h])
                        · exact .inr (Nat.le_trans (Nat.le_trans HKF.out.size HK8.out.size) h)
                      · exact HFR.out b (by unfold frT; simp [hb])
                  have hko10 : OwnS kdcells 2 w10 w.heap.size 44 ka kc KL := by
                    have h1 := HKO.out.keep0 HK8.out
                    have h2 := h1.keep KP9.out (ownApart h1 HT8.out.recs (fun e => tNe.2.2.2.2.2.1 e.symm))
                    exact h2.keep k10 (fun b hb hb2 => by simp at hb2; subst hb2; exact own_ne h2 HT9.out tNe.2.2.1 hb)
                  have HK10 := Lib.hid hk10
                  have HFR10 := Lib.hid hfr10
                  have HKO10 := Lib.hid hko10
                  clear ht10 k10 hk10 hfr10 hko10 HT9 HR9 KP9 HOB9 hwe
                  go_wp2_with fail
                  refine (HIH2.out true d1 rn1 sm T (fun b => X b ∨ b ∈ ob ka kc) ra9 rc9 (RL1 ++ R2) n1 nc1' NL1 w10 (by have := HD1.out; omega) (by have := HSM.out; omega) (by have := HSM.out; have := HRN1.out; have := HM2.out; simp; omega) HT10.out (fun b hb => by
                    rcases hb with hb | hb
                    · exact Nat.lt_of_lt_of_le (HX.out b hb) HK10.out.size
                    · exact (HKO10.out.ob_ge b hb).2) (by rw [HSM.out]; exact HGB.out.1) (by rw [HSM.out]; exact HGB.out.2.1)).mono ?_
                  rintro e7 w11 ⟨rfl, hin11⟩
                  rw [HSM.out] at hin11
                  have HIN11 := Lib.hid (hin11.tr HFR10.out HK10.out)
                  have HKO11 : Hid (OwnS kdcells 2 w11 w.heap.size 44 ka kc KL) := Lib.hid (by
                    obtain ⟨_, _, _, _, _, _, -, -, -, h4⟩ := hin11
                    exact HKO10.out.keep h4 (HT10.out.apart HKO10.out tNe.2.2.1 (fun e => tNe.2.2.2.2.2.1 e.symm) (fun e => tNe.2.2.2.2.2.2.1 e.symm)))
                  have HSZ11 : Hid (w.heap.size ≤ w11.heap.size) := Lib.hid (by
                    obtain ⟨_, _, _, _, _, _, -, -, -, h4⟩ := HIN11.out
                    exact h4.size)
                  have HNL : Hid (n < (growP leaf k f' true rn1 (rn1 + m2) ⟨(RL1 ++ R2).map (pr k), NL1.map pn⟩).N.length) := Lib.hid (by
                    have h1 := (grow_le leaf k f' true rn1 (rn1 + m2) ⟨(RL1 ++ R2).map (pr k), NL1.map pn⟩).2
                    have h2 := HNS.out
                    rw [HSC.out] at h2
                    exact Nat.lt_trans h2 h1)
                  obtain ⟨kn, hkn⟩ : ∃ kn, kn = KL.length := ⟨_, rfl⟩
                  rw [← hkn] at hkl ⊢
                  have HKN := Lib.hid hkn
                  clear hin11 hkn
                  go_wp2_with (at_builtin; refine wpList_appS kdlies rfl (.tmp 139) (.tmp 150) 38 38 rfl w.heap.size 44 (.agg #[.int .i64 0, .int .i64 0]) 16 Try.underlying38 infoKid rfl ka kc kn KL HKN.out [(-1, NL1.length)] _ 1 rfl rfl rfl (HKO11.out.alloc _) (src_oneS kdlies Try.underlying38 (heap_alloc_at rfl)) (by omega) (by omega) (by have := HSZ11.out; simp only [World.size_alloc]; omega) ?_; intro ka8 kc8 w12 ho8 kp8 hob8 _; have HIN12 := Lib.hid ((HIN11.out.keep0 ((Kp.refl [] w11).alloc _)).kids (HKO11.out.alloc _) (Nat.le_refl _) kp8 hob8); have HO12 := Lib.hid ho8; clear ho8 kp8 hob8)
                  go_meet
                  exact ⟨ka8, kc8, KL ++ [(-1, NL1.length)], _, by rw [List.length_append, ← HKN.out]; rfl, Lib.hid HGB.out.2.2, HIN12, HO12, HNL⟩
            · go_wp2_with fail
              go_meet
              exact ⟨ka, kc, KL, Sc, rfl, Lib.hid (by rw [HG.out, HGK2.out, HS0N.out.1]; rfl), HTI, HKO, HNS⟩
          obtain ⟨ka, kc, KL, Sf, rfl, HGF, HTF, HKF, HNF⟩ := hcut
          obtain ⟨wy, rfl⟩ : ∃ wy : World, wy = wc := ⟨_, rfl⟩
          obtain ⟨r1, rc1, RL1, n1, nc1', NL1, ht, hSf, hfr, hkf⟩ := HTF.out
          have hnl : n < NL1.length := by have := HNF.out; rw [hSf] at this; simpa using this
          obtain ⟨-, -, -, c4, -, -⟩ := ht.cell
          obtain ⟨y, hy⟩ : ∃ y : Nh, y = ⟨NL1[n].d, NL1[n].f, NL1[n].t, ka, KL.length, kc, KL⟩ := ⟨_, rfl⟩
          obtain ⟨gn, hgn, hgm, hgB, ⟨u, c43⟩, f43, hown, hkp⟩ := ht.nodes.put1 nlies hnl y 3 (.slice ka KL.length kc) (by omega) (by rw [hy]; rfl)
          subst hgn
          have HFIN : Hid (TreeIn T k mt leaf B X F w G (wy.setCell ⟨gn, n * 4 + 3, none⟩ (.slice ka KL.length kc))) := Lib.hid (by
            have h4 := ht.more (Y := X) (fun b hb => .inl (.inl hb))
            have h5 := h4.setKids hnl hgm hkp hown (by
              rw [hy]
              exact ⟨rfl, HKF.out.mono HSW.out.2, fun b hb hx => by have h6 := (HKF.out.ob_ge b hb).1; have h7 := HX.out b hx; omega⟩)
            refine ⟨_, _, _, _, _, _, h5, ?_, hfr, hkf.trans hkp (fun b hb => .inl hb) (fun b hb => ?_)⟩
            · rw [HGF.out, hSf]
              unfold setKids
              rw [List.map_set]
              have e : (NL1.map pn).getD n default = pn NL1[n] := by
                rw [List.getD_eq_getElem?_getD, List.getElem?_map, List.getElem?_eq_getElem hnl]; rfl
              rw [e, hy]; rfl
            · simp at hb; subst hb
              exact hfr _ (by unfold frT; simp [hgm]))
          obtain ⟨nl, hnlq⟩ : ∃ nl, nl = NL1.length := ⟨_, rfl⟩
          rw [← hnlq] at c4 hnl
          clear ht hSf hfr hkf hy hown hkp hgm hgB hnlq
          go_wp2_with fail
          go_ret
          exact ⟨rfl, HFIN.out⟩
theorem stGrow_any (k mt leaf B : Nat) (hk : k ≤ 8) (hmt : mt ≤ 1000) (hl1 : 1 ≤ leaf) (hl2 : leaf ≤ 1000000) : ∀ f, GrowOk k mt leaf B f
  | 0 => grow_step k mt leaf B 0 hk hmt hl1 hl2 (fun f' h => by cases h)
  | f + 1 => grow_step k mt leaf B (f + 1) hk hmt hl1 hl2 (fun f' h => by cases h; exact stGrow_any k mt leaf B hk hmt hl1 hl2 f)
end Go.Proofs.Ythmaobmgogmaoaa
