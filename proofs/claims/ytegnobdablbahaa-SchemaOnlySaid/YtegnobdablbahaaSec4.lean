/-
  Sections: how much they have; whether they are the same.
-/
import Derived.Test.YtegnobdablbahaaSec3
namespace Go.Proofs.Ytegnobdablbahaa
open Go.RowKit
set_option linter.unusedSimpArgs false
set_option linter.unusedVariables false

/-- How much sections have. -/
def szN (l : List Sec) : Nat := (l.map fun x => 10 + x.nm.size + x.bs.length).sum
theorem szN_step (l : List Sec) (k : Nat) (h : k < l.length) : szN (l.take (k + 1)) = szN (l.take k) + (10 + (atX l k).nm.size + (atX l k).bs.length) := by
  rw [List.take_succ_eq_append_getElem h, atX_eq l k h, szN, szN, List.map_append, List.sum_append]; simp
theorem kdN (w : World) (n : Nat) : Kp [] w (w.drewN n) := ⟨rfl, rfl, rfl, Nat.le_refl _, fun _ _ _ => rfl⟩
theorem w64_add (a b : Int) : wrap64 (wrap64 a + b) = wrap64 (a + b) := by unfold wrap64; omega

set_option maxHeartbeats 400000 in
theorem r21Size_any (ad : Option Addr) (cap n : Nat) (l : List Sec) (hn : n = l.length) (w : World) (h : RdX w ad cap l) (ho : XOk l) :
    Calls Try.prog 30 #[.slice ad n cap] w fun e w' => e = .returned (.int .i64 (wrap64 (szN l))) ∧ Kp [] w w' := by
  have H := Lib.hid h
  have HN := Lib.hid hn
  have hcap := h.1
  rw [← hn] at hcap
  have hcap2 := h.2.1
  clear h hn
  go_enter Try.func30, Try.ntmps30
  go_wp2_with fail
  go_loopw [3, 4] (fun vz vi wr => ∃ (k : Nat) (z : Int), k ≤ n ∧ vi = .int .i64 k ∧ vz = .int .i64 z ∧ Hid (z = wrap64 (szN (l.take k))) ∧ Kp [] w wr) (fun _ vi _ => n - (intOf vi).toNat)
  case atStart => exact ⟨0, 0, Nat.zero_le _, rfl, rfl, Lib.hid (by simp [szN]; unfold wrap64; omega), Kp.refl _ _⟩
  case round =>
    obtain ⟨k, z, hk, rfl, rfl, HZ, kp⟩ := hrel
    by_cases hlt : k < n
    · have hkl : k < l.length := by rw [← HN.out]; exact hlt
      obtain ⟨b, off, rfl, c0, c1⟩ := (H.out.keep0 kp).atX k hkl
      obtain ⟨-, hsz, hbl⟩ := (ho.at' k hkl)
      have hst := szN_step l k hkl
      obtain ⟨x, hx⟩ : ∃ x, x = atX l k := ⟨_, rfl⟩
      rw [← hx] at c0 c1 hsz hbl hst
      have HST := Lib.hid hst
      have HK := Lib.hid kp
      clear hx hkl kp hst
      go_wp2_with fail
      go_quiet (fail)
      have HZ2 : Hid (wrap64 (wrap64 (wrap64 (z + 10) + x.nm.size) + x.bs.length) = wrap64 (szN (l.take (k + 1)))) := Lib.hid (by
        rw [HZ.out, HST.out, w64_add _ 10, w64_add _ (x.nm.size : Int), w64_add _ (x.bs.length : Int)]; congr 1; omega)
      generalize wrap64 (wrap64 (wrap64 (z + 10) + x.nm.size) + x.bs.length) = z2 at *
      have HK2 := Lib.hid (HK.out.tr (kdN wr nq))
      generalize wr.drewN nq = w2 at *
      go_wp2_with fail
      go_roundw
      case rel => exact ⟨k + 1, z2, hlt, by go_num, rfl, HZ2, HK2.out⟩
      case measure => simp [intOf]; omega
    · obtain rfl : k = n := by omega
      go_wp2_with fail
      go_ret
      refine ⟨?_, kp⟩
      rw [HZ.out, List.take_of_length_le (by rw [HN.out]; exact Nat.le_refl _)]; rfl

theorem toList_eq {a b : ByteArray} (h : (a.toList == b.toList) = true) : a = b := by
  rw [beq_iff_eq, ByteArray.toList_eq, ByteArray.toList_eq] at h
  exact ByteArray.ext (Array.toList_inj.1 h)
def keyS (x : Sec) : ByteArray × List Int := (x.nm, x.bs)
/-- Are sections the same? -/
def sameX (l m : List Sec) : Bool := decide (l.map keyS = m.map keyS)
theorem same_yes {l m : List Sec} (h : l.length = m.length) (h2 : ∀ j, j < l.length → keyS (atX l j) = keyS (atX m j)) : sameX l m = true := by
  refine decide_eq_true (List.ext_getElem (by simpa using h) fun i h3 h4 => ?_)
  have h5 : i < l.length := by simpa using h3
  have := h2 i h5
  rw [atX_eq l i h5, atX_eq m i (by omega)] at this
  simpa using this
theorem same_no {l m : List Sec} (j : Nat) (h1 : j < l.length) (h : l.length = m.length) (h2 : keyS (atX l j) ≠ keyS (atX m j)) : sameX l m = false := by
  refine decide_eq_false fun e => h2 ?_
  have := congrArg (fun x => x[j]?) e
  rw [atX_eq l j h1, atX_eq m j (by omega)]
  simpa [h1, show j < m.length by omega] using this
theorem same_len {l m : List Sec} (h : l.length ≠ m.length) : sameX l m = false := by
  refine decide_eq_false fun e => h ?_
  have := congrArg List.length e; simpa using this

set_option maxHeartbeats 800000 in
theorem r21Same_any (ad : Option Addr) (cap n : Nat) (l : List Sec) (hn : n = l.length) (ad2 : Option Addr) (cap2 n2 : Nat) (m : List Sec) (hn2 : n2 = m.length) (w : World) (h : RdX w ad cap l) (hs : RdXs w l) (ho : XOk l) (h2 : RdX w ad2 cap2 m) (hs2 : RdXs w m) (ho2 : XOk m) :
    Calls Try.prog 34 #[.slice ad n cap, .slice ad2 n2 cap2] w fun e w' => e = .returned (.bool (sameX l m)) ∧ Kp [] w w' := by
  have H := Lib.hid h
  have H2 := Lib.hid h2
  have HS := Lib.hid hs
  have HS2 := Lib.hid hs2
  have HN := Lib.hid hn
  have HN2 := Lib.hid hn2
  have hcap := h.1
  rw [← hn] at hcap
  have hcap2 := h.2.1
  have hcap3 := h2.1
  rw [← hn2] at hcap3
  have hcap4 := h2.2.1
  clear h hn h2 hn2 hs hs2
  by_cases hl : n = n2
  · have HL : Hid (l.length = m.length) := Lib.hid (by rw [← HN.out, ← HN2.out]; exact hl)
    subst hl
    go_enter Try.func34, Try.ntmps34
    go_wp2_with fail
    go_loopw [5] (fun vi wr => ∃ (k : Nat), k ≤ n ∧ vi = .int .i64 k ∧ Hid (∀ j, j < k → keyS (atX l j) = keyS (atX m j)) ∧ Kp [] w wr) (fun vi _ => n - (intOf vi).toNat)
    case atStart => exact ⟨0, Nat.zero_le _, rfl, Lib.hid (fun j hj => by omega), Kp.refl _ _⟩
    case round =>
      obtain ⟨k, hk, rfl, HE, kp⟩ := hrel
      by_cases hlt : k < n
      · have hkl : k < l.length := by rw [← HN.out]; exact hlt
        have hkm : k < m.length := by rw [← HN2.out]; exact hlt
        obtain ⟨b, off, rfl, c0, c1⟩ := (H.out.keep0 kp).atX k hkl
        obtain ⟨b2, off2, rfl, d0, d1⟩ := (H2.out.keep0 kp).atX k hkm
        have hx1 := HS.out.keep0 kp (atX l k) (by rw [atX_eq l k hkl]; exact List.getElem_mem _)
        have hx2 := HS2.out.keep0 kp (atX m k) (by rw [atX_eq m k hkm]; exact List.getElem_mem _)
        have hb1 := (ho.at' k hkl).1
        have hb2 := (ho2.at' k hkm).1
        obtain ⟨x, hx⟩ : ∃ x, x = atX l k := ⟨_, rfl⟩
        obtain ⟨y, hy⟩ : ∃ y, y = atX m k := ⟨_, rfl⟩
        rw [← hx] at c0 c1 hx1 hb1
        rw [← hy] at d0 d1 hx2 hb2
        have cv1 : ∀ q, (convert 39 9 (.slice x.ad x.bs.length x.cap)).run Try.prog (wr.drewN q) = .ok (.string (strOfNums x.bs)) (wr.drewN q) := fun q => cvs _ _ _ _ _ (hx1.keep0 (kdN wr q)) rfl
        have cv2 : ∀ q, (convert 39 9 (.slice y.ad y.bs.length y.cap)).run Try.prog (wr.drewN q) = .ok (.string (strOfNums y.bs)) (wr.drewN q) := fun q => cvs _ _ _ _ _ (hx2.keep0 (kdN wr q)) rfl
        have HX := Lib.hid hx
        have HY := Lib.hid hy
        have HK := Lib.hid kp
        have HKL := Lib.hid hkl
        have HB1 := Lib.hid hb1
        have HB2 := Lib.hid hb2
        clear hx hy hkl hkm kp hx1 hx2 hb1 hb2
        cases he : x.nm.toList == y.nm.toList with
        | false =>
          go_wp2_with fail
          go_quiet (fail)
          have HK2 := Lib.hid (HK.out.tr (kdN wr nq))
          generalize wr.drewN nq = w2 at *
          have HE2 := Lib.hid he
          clear cv1 cv2 he
          go_wp2_with fail
          go_ret
          refine ⟨?_, HK2.out⟩
          rw [same_no k HKL.out HL.out (by rw [← HX.out, ← HY.out]; intro e; have := congrArg Prod.fst e; have he := HE2.out; simp only [keyS] at this; rw [this] at he; simp at he)]; rfl
        | true =>
          by_cases hb : x.bs = y.bs
          · have hq := strq HB1.out HB2.out true (by rw [decide_eq_true hb])
            have HQ2 := Lib.hid hb
            clear hb
            go_wp2_with fail
            go_quiet (fail)
            have HK2 := Lib.hid (HK.out.tr (kdN wr nq))
            generalize wr.drewN nq = w2 at *
            have HE2 := Lib.hid he
            clear cv1 cv2 he hq
            go_wp2_with fail
            go_roundw
            case rel => exact ⟨k + 1, hlt, by go_num, Lib.hid (fun j hj => by
              by_cases h : j < k
              · exact HE.out j h
              · obtain rfl : j = k := by omega
                rw [← HX.out, ← HY.out, keyS, keyS, toList_eq HE2.out, HQ2.out]), HK2.out⟩
            case measure => simp [intOf]; omega
          · have hq := strq HB1.out HB2.out false (by rw [decide_eq_false hb])
            go_wp2_with fail
            go_quiet (fail)
            have HK2 := Lib.hid (HK.out.tr (kdN wr nq))
            generalize wr.drewN nq = w2 at *
            have HQ2 := Lib.hid hb
            clear cv1 cv2 hb he hq
            go_wp2_with fail
            go_ret
            refine ⟨?_, HK2.out⟩
            rw [same_no k HKL.out HL.out (by rw [← HX.out, ← HY.out]; intro e; exact HQ2.out (congrArg Prod.snd e))]; rfl
      · obtain rfl : k = n := by omega
        go_wp2_with fail
        go_ret
        refine ⟨?_, kp⟩
        rw [same_yes HL.out (by rw [← HN.out]; exact HE.out)]; rfl
  · go_enter Try.func34, Try.ntmps34
    go_wp2_with fail
    go_ret
    refine ⟨?_, Kp.refl _ _⟩
    rw [same_len (by rw [← HN.out, ← HN2.out]; exact hl)]; rfl
end Go.Proofs.Ytegnobdablbahaa
