/-
  Tables: the law of joining.
-/
import Derived.Test.YtfacpfogdcefpaaTabO
namespace Go.Proofs.Ytfacpfogdcefpaa
open Go.RowKit Go.Shelf
set_option linter.unusedSimpArgs false
set_option linter.unusedVariables false
set_option maxRecDepth 100000

theorem upto_any (p : List V3 → Bool) (hs : List Hd) : upto hs.length (fun i => p (rowA hs i)) = hs.any fun h => p h.row := by
  rw [Bool.eq_iff_iff, List.any_eq_true]
  constructor
  · intro h
    cases hh : hs.any (fun h => p h.row) with
    | true => obtain ⟨x, h1, h2⟩ := List.any_eq_true.1 hh; exact ⟨x, h1, h2⟩
    | false =>
      exfalso
      have : (!upto hs.length (fun i => p (rowA hs i))) = true := (nupto).2 (fun k hk => by
        rw [rowA_eq hs k hk]
        have := List.any_eq_false.1 hh hs[k] (List.getElem_mem _)
        simpa using this)
      rw [h] at this; simp at this
  · rintro ⟨x, hx, hp⟩
    obtain ⟨i, hi, rfl⟩ := List.getElem_of_mem hx
    exact upto_yes (k := i) hi (by rw [rowA_eq hs i hi]; exact hp)
theorem mayT_any (l : List Col) (hs : List Hd) : mayT l hs = if !mayC l then 2 else if hs.any (fun h => badRow l h.row) then 2 else if hs.any (fun h => oddRow l h.row) then 9 else 0 := by
  unfold mayT
  rw [upto_any (badRow l), upto_any (oddRow l)]
theorem mayT_vals (l : List Col) (hs : List Hd) : mayT l hs = 0 ∨ mayT l hs = 2 ∨ mayT l hs = 9 := by
  rw [mayT_any]
  split
  · simp
  · split
    · simp
    · split <;> simp
theorem mayT_append (l : List Col) (a b : List Hd) : mayT l (a ++ b) = if mayT l a = 0 ∧ mayT l b = 0 then 0 else if mayT l a = 2 ∨ mayT l b = 2 then 2 else 9 := by
  simp only [mayT_any, List.any_append]
  cases mayC l <;> cases a.any (fun h => badRow l h.row) <;> cases b.any (fun h => badRow l h.row) <;> cases a.any (fun h => oddRow l h.row) <;> cases b.any (fun h => oddRow l h.row) <;> rfl

def c0 : Cfg := ⟨0, none, 0, [], none, 0, [], none, 0, [], 0⟩
set_option maxHeartbeats 1600000 in
theorem tableJoins_any (ad : Option Addr) (cap n : Nat) (l : List Col) (hn : n = l.length) (ra : Option Addr) (rc m : Nat) (a : List Hd) (hm : m = a.length) (rb : Option Addr) (rd k : Nat) (b : List Hd) (hk : k = b.length) (w : World) (h : RdC w ad cap l) (ho : COk l) (ha : RdR w ra rc a) (hb : RdR w rb rd b) :
    Calls Try.prog 4 #[.slice ad n cap, .slice ra m rc, .slice rb k rd] w fun e w' => e = .returned (.bool true) ∧ Kp [] w w' := by
  have H := Lib.hid h
  have HO := Lib.hid ho
  have HA := Lib.hid ha
  have HB := Lib.hid hb
  have HN := Lib.hid hn
  have HM := Lib.hid hm
  have HK := Lib.hid hk
  clear h hn ho ha hb hm hk
  go_enter Try.func4, Try.ntmps4
  go_wp2_with fail
  refine (r18Great_any ad cap n l HN.out c0 ra rc m a HM.out 100 w H.out HO.out HA.out (by omega)).mono ?_
  rintro e w2 ⟨ga, rfl, kp2, hga⟩
  have K2 := Lib.hid kp2
  clear kp2
  cases ga
  · go_wp2_with fail
    refine (r18Great_any ad cap n l HN.out c0 rb rd k b HK.out 100 w2 (H.out.keep0 K2.out) HO.out (HB.out.keep0 K2.out) (by omega)).mono ?_
    rintro e w3 ⟨gb, rfl, kp3, hgb⟩
    have K3 := Lib.hid (K2.out.tr kp3)
    clear kp3
    cases gb
    · have hm1 : m ≤ 100 := by rw [HM.out]; exact (hga rfl).2.1
      have hk1 : k ≤ 100 := by rw [HK.out]; exact (hgb rfl).2.1
      clear hga hgb
      go_wp2_with fail
      refine (tMay_any ad cap n l HN.out ra rc m a HM.out w3 (H.out.keep0 K3.out) HO.out (HA.out.keep0 K3.out) (by omega)).mono ?_
      rintro e w4 ⟨rfl, kp4⟩
      have K4 := Lib.hid (K3.out.tr kp4)
      clear kp4
      go_wp2_with fail
      refine (tMay_any ad cap n l HN.out rb rd k b HK.out w4 (H.out.keep0 K4.out) HO.out (HB.out.keep0 K4.out) (by omega)).mono ?_
      rintro e w5 ⟨rfl, kp5⟩
      have K5 := Lib.hid (K4.out.tr kp5)
      clear kp5
      have HG : Hid (∃ g, mayT l (a ++ b) = g ∧ ((mayT l a = 0 ∧ mayT l b = 0 ∧ g = 0) ∨ ((mayT l a = 2 ∨ (mayT l a ≠ 2 ∧ mayT l b = 2)) ∧ ¬ (mayT l a = 0 ∧ mayT l b = 0) ∧ g = 2) ∨ (mayT l a ≠ 2 ∧ mayT l b ≠ 2 ∧ ¬ (mayT l a = 0 ∧ mayT l b = 0) ∧ g = 9))) := Lib.hid (by
        refine ⟨_, rfl, ?_⟩
        rw [mayT_append]
        by_cases h0 : mayT l a = 0 ∧ mayT l b = 0
        · rw [if_pos h0]; exact .inl ⟨h0.1, h0.2, rfl⟩
        · rw [if_neg h0]
          by_cases h2 : mayT l a = 2 ∨ mayT l b = 2
          · rw [if_pos h2]; exact .inr (.inl ⟨by omega, h0, rfl⟩)
          · rw [if_neg h2]; exact .inr (.inr ⟨by omega, by omega, h0, rfl⟩))
      obtain ⟨g, hg, hcases⟩ := HG.out
      have HG1 := Lib.hid hg
      have VA := mayT_vals l a
      have VB := mayT_vals l b
      have HAk := Lib.hid (HA.out.keep0 K5.out)
      have HBk := Lib.hid (HB.out.keep0 K5.out)
      have HS1 : Hid (∀ W, Kp [] w5 W → Src Try.prog 1 27 (.slice ra m rc) m (a.flatMap hcells) W) := Lib.hid (fun W hW => by
        have := src_rdS hlies (P := Try.prog) ((HAk.out.keep0 hW).1) Try.underlying27
        rwa [← HM.out] at this)
      have HS2 : Hid (∀ W, Kp [] w5 W → Src Try.prog 1 27 (.slice rb k rd) k (b.flatMap hcells) W) := Lib.hid (fun W hW => by
        have := src_rdS hlies (P := Try.prog) ((HBk.out.keep0 hW).1) Try.underlying27
        rwa [← HK.out] at this)
      clear hg HG
      generalize mayT l a = ea at *
      generalize mayT l b = eb at *
      have K5a : Kp [] w5 (w5.alloc (.cells #[] 36)) := (Kp.refl [] w5).alloc _
      go_wp2_with (first
        | (at_builtin; refine wpList_appS hlies rfl (.tmp 28) (.tmp 29) 27 27 rfl w5.heap.size 36 (.slice none 0 0) 24 Try.underlying27 infoRow rfl _ 0 0 [] rfl a _ m HM.out rfl rfl (.inl ⟨rfl, rfl⟩) (HS1.out _ K5a) (by omega) (by omega) (by simp) ?_; intro adA capA wA hoA kpA hobA _; rw [List.nil_append] at hoA; have kpA2 : Kp [] w5 wA := K5a.trans kpA (by simp) (by simp [ob]); have hsA := kpA2.size)
        | (at_builtin; refine wpList_appS hlies rfl (.tmp 30) (.tmp 31) 27 27 rfl w5.heap.size 36 (.slice none 0 0) 24 Try.underlying27 infoRow rfl adA capA m a HM.out b _ k HK.out rfl rfl hoA (HS2.out _ kpA2) (by omega) (by omega) hsA ?_; intro adB capB wB hoB kpB hobB _; have kpB2 : Kp [] w5 wB := kpA2.trans kpB (by simp) (fun x hx => .inr (hoA.ob_ge x hx).1)))
      have K6 := Lib.hid (K5.out.tr kpB2)
      have HRB : Hid (RdR wB adB capB (a ++ b)) := Lib.hid ⟨hoB.rd hlies, fun x hx => by
        rcases List.mem_append.1 hx with hx | hx
        · exact (HAk.out.2 x hx).keep0 kpB2
        · exact (HBk.out.2 x hx).keep0 kpB2⟩
      clear hoA hoB kpA kpB kpA2 kpB2 hobA hobB K5a hsA
      refine (tMay_any ad cap n l HN.out adB capB (m + k) (a ++ b) (by rw [HM.out, HK.out]; simp) wB (H.out.keep0 K6.out) HO.out HRB.out (by omega)).mono ?_
      rintro e w7 ⟨rfl, kp7⟩
      rw [HG1.out]
      have K7 := Lib.hid (K6.out.tr kp7)
      clear kp7 HG1
      rcases hcases with ⟨rfl, rfl, rfl⟩ | ⟨h1 | ⟨h1, h2⟩, h3, rfl⟩ | ⟨h1, h2, h3, rfl⟩
      · go_wp2_with fail
        refine (known18_any w7).mono ?_
        rintro e w8 ⟨rfl, kp8⟩
        go_wp2_with fail
        go_ret
        exact ⟨rfl, K7.out.tr kp8⟩
      · subst h1
        go_wp2_with fail
        refine (known18_any w7).mono ?_
        rintro e w8 ⟨rfl, kp8⟩
        go_wp2_with fail
        go_ret
        exact ⟨rfl, K7.out.tr kp8⟩
      · subst h2
        have e1 : ea = 0 ∨ ea = 9 := by omega
        clear VA VB h1 h3
        rcases e1 with rfl | rfl
        all_goals
          go_wp2_with fail
          refine (known18_any w7).mono ?_
          rintro e w8 ⟨rfl, kp8⟩
          go_wp2_with fail
          go_ret
          exact ⟨rfl, K7.out.tr kp8⟩
      · have e1 : (ea = 0 ∧ eb = 9) ∨ (ea = 9 ∧ eb = 0) ∨ (ea = 9 ∧ eb = 9) := by omega
        clear VA VB h1 h2 h3
        rcases e1 with ⟨rfl, rfl⟩ | ⟨rfl, rfl⟩ | ⟨rfl, rfl⟩
        all_goals
          go_wp2_with fail
          refine (known18_any w7).mono ?_
          rintro e w8 ⟨rfl, kp8⟩
          go_wp2_with fail
          go_ret
          exact ⟨rfl, K7.out.tr kp8⟩
    · go_wp2_with fail
      refine (known18_any w3).mono ?_
      rintro e w4 ⟨rfl, kp4⟩
      go_wp2_with fail
      go_ret
      exact ⟨rfl, K3.out.tr kp4⟩
  · go_wp2_with fail
    refine (known18_any w2).mono ?_
    rintro e w3 ⟨rfl, kp3⟩
    go_wp2_with fail
    go_ret
    exact ⟨rfl, K2.out.tr kp3⟩
end Go.Proofs.Ytfacpfogdcefpaa
