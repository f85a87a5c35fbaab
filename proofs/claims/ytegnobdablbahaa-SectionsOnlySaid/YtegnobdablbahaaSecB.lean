/-
  Sections: the law of reading.
-/
import Derived.Test.YtegnobdablbahaaSecA
namespace Go.Proofs.Ytegnobdablbahaa
open Go.RowKit
set_option linter.unusedSimpArgs false
set_option linter.unusedVariables false

theorem Own.setAny {w : World} {base : Nat} {e : TypeId} {k : IntKind} {ad : Option Addr} {cap : Nat} {zs : List Int} (h : Own w base e k ad cap zs) (g i : Nat) (v : Int) : ∃ zs', zs'.length = zs.length ∧ Own (w.setCell ⟨g, i, none⟩ (.int k v)) base e k ad cap zs' := by
  by_cases hg : g ∈ ob ad cap
  · obtain ⟨x, hx⟩ : ∃ x, ad = some x := by
      cases ad with
      | none => simp [ob] at hg
      | some x => exact ⟨x, rfl⟩
    have h0 := h
    rcases h with ⟨h1, -⟩ | ⟨g', cur, hq, h1, h2, h3⟩
    · simp [ob, h1] at hg
    · rw [hq] at hg
      unfold ob at hg
      split at hg
      · simp at hg
      · simp at hg
        subst hg
        subst hq
        exact ⟨zs.set i v, by simp, h0.set i v⟩
  · exact ⟨zs, rfl, h.keep ((Kp.refl [g] w).setCell _ _ (by simp)) (fun b hb hb2 => by simp at hb2; subst hb2; exact hg hb)⟩
theorem OwnS.keepB {w : World} {base base2 : Nat} {ad ad2 : Option Addr} {cap cap2 : Nat} {zs : List Int} {l : List Sec} (hh : OwnS scells 2 w base2 50 ad2 cap2 l) (hx : Own w base 5 .u8 ad cap zs) {g : Nat} (hg : g ∈ ob ad cap) (i : Nat) (v : Value) : OwnS scells 2 (w.setCell ⟨g, i, none⟩ v) base2 50 ad2 cap2 l := by
  refine hh.keep (S := [g]) ((Kp.refl [g] w).setCell _ _ (by simp)) fun b hb hb2 => ?_
  simp at hb2
  subst hb2
  rcases hx with ⟨h, -⟩ | ⟨g1, cur, rfl, -, hg1, -⟩
  · simp [ob, h] at hg
  rcases hh with ⟨h, -⟩ | ⟨g2, cur2, rfl, -, hg2, -⟩
  · simp [ob, h] at hb
  unfold ob at hb hg
  split at hg
  · simp at hg
  split at hb
  · simp at hb
  simp at hb hg
  subst hb
  subst hg
  rw [hg1] at hg2
  injection hg2 with h1
  injection h1 with h2 h3
  exact absurd h3 (by decide)

set_option maxRecDepth 100000 in
set_option maxHeartbeats 1600000 in
theorem sectionsRead_any (a0 : Option Addr) (cap0 n : Nat) (zs : List Int) (hn : n = zs.length) (w : World) (hr : Rd w .u8 a0 cap0 zs) (hb : Bytes8 zs) :
    Calls Try.prog 8 #[.slice a0 n cap0] w fun e w' => e = .returned (.bool true) ∧ Kp [] w w' := by
  have HR := Lib.hid hr
  have HN := Lib.hid hn
  have hcl := hr.1
  rw [← hn] at hcl
  have hcm := hr.2.1
  clear hr hn
  by_cases h0 : (5000 : Int) < (n : Int)
  · go_enter Try.func8, Try.ntmps8
    go_wp2_with fail
    refine (known21_any _).mono ?_
    rintro e w1 ⟨rfl, kp1⟩
    go_wp2_with fail
    go_ret
    exact ⟨rfl, kp1⟩
  · go_enter Try.func8, Try.ntmps8
    go_wp2_with (at_builtin; refine wpList_copyB rfl (.tmp 14) (.tmp 15) 39 39 rfl w.heap.size 5 .u8 1 Try.underlying39 Try.underlying39 infoU8 (some ⟨w.heap.size, 0, none⟩) a0 cap0 n zs HN.out rfl rfl (HR.out.alloc _) (by omega) (by omega) (by simp) ?_; intro ad1 cap1 w1 ho1 kp1; have HO1 := Lib.hid ho1; have HK1 := Lib.hid (((Kp.refl [] w).alloc _).tr kp1); clear ho1 kp1)
    refine (xRead_any ad1 cap1 n zs HN.out _ HO1.out.rd hb (by omega)).mono ?_
    rintro e w2 ⟨l, ad2, cap2, rfl, hk2, ho2, hob2, hx2, kp2⟩
    obtain ⟨z, hz⟩ : ∃ z, z = (rdP zs).1 := ⟨_, rfl⟩
    rw [← hz]
    have HZ := Lib.hid hz
    have HK2 := Lib.hid kp2
    have HO2 := Lib.hid ho2
    have HOB2 := Lib.hid hob2
    have HX2 := Lib.hid hx2
    have HKE2 := Lib.hid hk2
    obtain ⟨L, hL⟩ : ∃ L, L = l.length := ⟨_, rfl⟩
    rw [← hL]
    have HL := Lib.hid hL
    clear kp2 ho2 hob2 hx2 hk2 hz hL
    go_wp2_with fail
    refine (r21Read_any a0 cap0 n zs HN.out _ (HR.out.keep0 (HK1.out.tr HK2.out)) hb (by omega)).mono ?_
    rintro e w3 ⟨m, ad3, cap3, rfl, hk3, ho3, hob3, hx3, kp3⟩
    rw [← HZ.out]
    have HK3 := Lib.hid kp3
    have HO3 := Lib.hid ho3
    have HOB3 := Lib.hid hob3
    have HX3 := Lib.hid hx3
    have HS : Hid (sameX l m = true) := Lib.hid (by rw [sameX, HKE2.out, hk3]; exact decide_eq_true rfl)
    clear kp3 ho3 hob3 hx3 hk3
    go_wp2_with fail
    refine (r21Same_any ad2 cap2 L l HL.out ad3 cap3 m.length m rfl _ ((HO2.out.keep0 HK3.out).rd slies) (fun x hx => (HOB2.out x hx).rd.keep0 HK3.out) HX2.out (HO3.out.rd slies) (fun x hx => (HOB3.out x hx).rd) HX3.out).mono ?_
    rintro e w4 ⟨rfl, kp4⟩
    rw [HS.out]
    have HK4 := Lib.hid kp4
    clear kp4
    go_wp2_with fail
    have hL2 : L ≤ 9223372036854775807 := by have h1 := (HO2.out.rd slies).1; have h2 := (HO2.out.rd slies).2.1; rw [HL.out]; omega
    have HK5 := Lib.hid (HK2.out.tr (HK3.out.tr HK4.out))
    have HO5 := Lib.hid (HO2.out.keep0 (HK3.out.tr HK4.out))
    have HB5 : Hid (∀ i, i < L → ∃ ys, ys.length = (atX l i).bs.length ∧ Own w4 w1.heap.size 5 .u8 (atX l i).ad (atX l i).cap ys) := Lib.hid (fun i hi => ⟨_, rfl, (HOB2.out _ (by rw [atX_eq l i (by rw [← HL.out]; exact hi)]; exact List.getElem_mem _)).keep0 (HK3.out.tr HK4.out)⟩)
    clear HO3 HOB3
    go_loopw [8, 9, 38] (fun _ _ vi wr => ∃ (k : Nat), k ≤ L ∧ vi = .int .i64 k ∧ Hid (OwnS scells 2 wr w1.heap.size 50 ad2 cap2 l) ∧ Hid (∀ i, i < L → ∃ ys, ys.length = (atX l i).bs.length ∧ Own wr w1.heap.size 5 .u8 (atX l i).ad (atX l i).cap ys) ∧ Hid (Kp [] w1 wr)) (fun _ _ vi _ => L - (intOf vi).toNat)
    case atStart => exact ⟨0, Nat.zero_le _, rfl, HO5, HB5, HK5⟩
    case round =>
      obtain ⟨k, hk, rfl, HO, HB, HK⟩ := hrel
      by_cases hlt : k < L
      · obtain ⟨b, off, rfl, c0, c1⟩ := RdX.atX (HO.out.rd slies) k (by rw [← HL.out]; exact hlt)
        obtain ⟨q, hq⟩ : ∃ q, q = (atX l k).bs.length := ⟨_, rfl⟩
        rw [← hq] at c1
        have HQ := Lib.hid hq
        have hq2 : q ≤ 9223372036854775807 := by rw [hq]; exact (HX2.out.at' k (by rw [← HL.out]; exact hlt)).2.2
        clear c0 hq
        go_wp2_with fail
        go_loopw [9, 47] (fun _ vj wr => ∃ (j : Nat), j ≤ q ∧ vj = .int .i64 j ∧ Hid (OwnS scells 2 wr w1.heap.size 50 (some ⟨b, off, none⟩) cap2 l) ∧ Hid (∀ i, i < L → ∃ ys, ys.length = (atX l i).bs.length ∧ Own wr w1.heap.size 5 .u8 (atX l i).ad (atX l i).cap ys) ∧ Hid (Kp [] w1 wr)) (fun _ vj _ => q - (intOf vj).toNat)
        case atStart => exact ⟨0, Nat.zero_le _, rfl, HO, HB, HK⟩
        case round =>
          clear c1
          obtain ⟨j, hj, rfl, HO, HB, HK⟩ := hrel
          by_cases hjl : j < q
          · obtain ⟨b2, off2, e2, d0, d1⟩ := RdX.atX (HO.out.rd slies) k (by rw [← HL.out]; exact hlt)
            cases e2
            obtain ⟨ys, hy1, hy2⟩ := HB.out k hlt
            have hjy : j < ys.length := by rw [hy1, ← HQ.out]; exact hjl
            obtain ⟨g, hg, hc, hf, hg1, hg2⟩ := hy2.at' hjy
            have HG2 := Lib.hid hg2
            have HY2 := Lib.hid hy2
            rw [hg, ← HQ.out] at d1
            obtain ⟨v, hv⟩ : ∃ v, v = nth ys j := ⟨_, rfl⟩
            rw [← hv] at hc
            have hws : (IntKind.u8.wrap (v + 1)) = (v + 1) % 256 := IntKind.wrap_u8 _
            clear d0 hy1 hjy hg hg2 hy2 hv
            go_wp2_with fail
            go_roundw
            case rel =>
              refine ⟨j + 1, hjl, by go_num, Lib.hid (HO.out.keepB HY2.out HG2.out j _), Lib.hid (fun i hi => ?_), Lib.hid (HK.out.setCell _ _ (.inr hg1))⟩
              obtain ⟨ys2, h1, h2⟩ := HB.out i hi
              obtain ⟨ys3, h3, h4⟩ := h2.setAny g j ((v + 1) % 256)
              exact ⟨ys3, h3.trans h1, h4⟩
            case measure => simp [intOf]; omega
          · obtain rfl : j = q := by omega
            go_wp2_with fail
            go_roundw
            case rel => exact ⟨k + 1, hlt, by go_num, HO, HB, HK⟩
            case measure => simp [intOf]; omega
      · obtain rfl : k = L := by omega
        have hv1 := cvs wr ad1 cap1 n zs ((HO1.out.keep0 HK.out).rd) HN.out
        have hv2 := cvs wr a0 cap0 n zs (HR.out.keep0 (HK1.out.tr HK.out)) HN.out
        have hq := strq hb hb true (by simp)
        go_wp2_with fail
        refine (known21_any _).mono ?_
        rintro e w9 ⟨rfl, kp9⟩
        go_wp2_with fail
        go_ret
        exact ⟨rfl, (HK1.out.tr HK.out).tr kp9⟩
end Go.Proofs.Ytegnobdablbahaa
