/-
  Sections: why they may not be.
-/
import Derived.Test.YtegnobdablbahaaSec2
namespace Go.Proofs.Ytegnobdablbahaa
open Go.RowKit
set_option linter.unusedSimpArgs false
set_option linter.unusedVariables false

/-- What holds of sections, whatever the memory. -/
def XOk (l : List Sec) : Prop := ∀ x ∈ l, Bytes8 x.bs ∧ x.nm.size ≤ maxLen ∧ x.bs.length ≤ 9223372036854775807
def atX (l : List Sec) (i : Nat) : Sec := l.getD i default
theorem atX_eq (l : List Sec) (i : Nat) (h : i < l.length) : atX l i = l[i] := by simp [atX, h]
theorem XOk.at' {l : List Sec} (h : XOk l) (i : Nat) (hi : i < l.length) : Bytes8 (atX l i).bs ∧ (atX l i).nm.size ≤ maxLen ∧ (atX l i).bs.length ≤ 9223372036854775807 := by rw [atX_eq l i hi]; exact h _ (List.getElem_mem _)
def badN (l : List Sec) (i : Nat) : Bool := !isNm (atX l i).nm
def badI (l : List Sec) (i : Nat) : Bool := !isNm (atX l i).nm || decide (1073741824 < (atX l i).bs.length)
def dupI (l : List Sec) (i : Nat) : Bool := !decide (fndX l (atX l i).nm = i)
def upto (n : Nat) (p : Nat → Bool) : Bool := (List.range n).any p
theorem upto_step (n : Nat) (p : Nat → Bool) : upto (n + 1) p = (upto n p || p n) := by simp [upto, List.range_succ]
theorem upto_yes {n k : Nat} {p : Nat → Bool} (hk : k < n) (h : p k = true) : upto n p = true := by
  simp only [upto, List.any_eq_true, List.mem_range]; exact ⟨k, hk, h⟩
theorem upto_no {n k : Nat} {p : Nat → Bool} (hk : k < n) (h : upto n p = false) : p k = false := by
  cases hp : p k
  · rfl
  · rw [upto_yes hk hp] at h; cases h
def mayG (l : List Sec) (bad : Nat → Bool) : Int := if upto l.length bad then 2 else if 2000 < l.length then 3 else if upto l.length (dupI l) then 8 else 0
/-- What package sections answers. -/
def mayP (l : List Sec) : Int := mayG l (badI l)
/-- What the document answers. -/
def mayN (l : List Sec) : Int := mayG l (badN l)
theorem RdX.atX {w : World} {ad : Option Addr} {cap : Nat} {l : List Sec} (h : RdX w ad cap l) (i : Nat) (hi : i < l.length) :
    ∃ b off, ad = some ⟨b, off, none⟩ ∧ w.cell? ⟨b, off + i * 2, none⟩ = some (.string (atX l i).nm) ∧ w.cell? ⟨b, off + i * 2 + 1, none⟩ = some (.slice (atX l i).ad (atX l i).bs.length (atX l i).cap) := by
  rw [atX_eq l i hi]; exact h.at' i hi

set_option maxHeartbeats 400000 in
theorem r21May_any (ad : Option Addr) (cap n : Nat) (l : List Sec) (hn : n = l.length) (w : World) (h : RdX w ad cap l) (ho : XOk l) :
    Calls Try.prog 33 #[.slice ad n cap] w fun e w' => e = .returned (.int .i64 (mayN l)) ∧ w' = w := by
  have H := Lib.hid h
  have HN := Lib.hid hn
  have hcap := h.1
  rw [← hn] at hcap
  have hcap2 := h.2.1
  clear h hn
  go_enter Try.func33, Try.ntmps33
  go_wp2_with fail
  go_loopw [3] (fun vi wr => ∃ k : Nat, k ≤ n ∧ vi = .int .i64 k ∧ Hid (upto k (badN l) = false) ∧ wr = w) (fun vi _ => n - (intOf vi).toNat)
  case atStart => exact ⟨0, Nat.zero_le _, rfl, Lib.hid rfl, rfl⟩
  case round =>
    obtain ⟨k, hk, rfl, HX, rfl⟩ := hrel
    by_cases hlt : k < n
    · have hkl : k < l.length := by rw [← HN.out]; exact hlt
      obtain ⟨b, off, rfl, c0, c1⟩ := H.out.atX k hkl
      have hsz := (ho.at' k hkl).2.1
      obtain ⟨nm, hnm⟩ : ∃ nm, nm = (atX l k).nm := ⟨_, rfl⟩
      rw [← hnm] at c0 hsz
      have HNM := Lib.hid hnm
      clear c1 hnm hkl
      cases hi : isNm nm with
      | true =>
        have HI := Lib.hid hi
        clear hi
        go_wp2_with (go_at_call 57; refine (r21Name_any _ _ hsz).mono ?_; rintro e w7 ⟨rfl, rfl⟩; rw [HI.out])
        go_roundw
        case rel => exact ⟨k + 1, hlt, by go_num, Lib.hid (by rw [upto_step, HX.out, badN, ← HNM.out, HI.out]; rfl), by first | rfl | trivial⟩
        case measure => simp [intOf]; omega
      | false =>
        have HI := Lib.hid hi
        clear hi
        go_wp2_with (go_at_call 57; refine (r21Name_any _ _ hsz).mono ?_; rintro e w7 ⟨rfl, rfl⟩; rw [HI.out])
        go_ret
        refine ⟨?_, rfl⟩
        rw [mayN, mayG, upto_yes (k := k) (by rw [← HN.out]; exact hlt) (by rw [badN, ← HNM.out, HI.out]; rfl)]; rfl
    · obtain rfl : k = n := by omega
      by_cases h2 : (2000 : Int) < (k : Int)
      · go_wp2_with fail
        go_ret
        refine ⟨?_, rfl⟩
        rw [mayN, mayG, ← HN.out, HX.out, if_neg (by simp), if_pos (by omega)]; rfl
      · go_wp2_with fail
        go_loopw [4] (fun vi w9 => ∃ j : Nat, j ≤ k ∧ vi = .int .i64 j ∧ Hid (upto j (dupI l) = false) ∧ w9 = wr) (fun vi _ => k - (intOf vi).toNat)
        case atStart => exact ⟨0, Nat.zero_le _, rfl, Lib.hid rfl, rfl⟩
        case round =>
          obtain ⟨j, hj, rfl, HY, rfl⟩ := hrel
          by_cases hlt : j < k
          · have hkl : j < l.length := by rw [← HN.out]; exact hlt
            obtain ⟨b, off, rfl, c0, c1⟩ := H.out.atX j hkl
            clear c1
            by_cases hd : fndX l (atX l j).nm = (j : Int)
            · have HD := Lib.hid hd
              clear hd
              go_wp2_with (go_at_call 36; refine (r21Find_any _ _ _ l _ HN.out _ H.out).mono ?_; rintro e w7 ⟨rfl, rfl⟩; rw [HD.out])
              go_roundw
              case rel => exact ⟨j + 1, hlt, by go_num, Lib.hid (by rw [upto_step, HY.out, dupI, HD.out]; simp), by first | rfl | trivial⟩
              case measure => simp [intOf]; omega
            · have hdd : (fndX l (atX l j).nm != (j : Int)) = true := by simpa using hd
              have HD := Lib.hid hd
              obtain ⟨z, hz⟩ : ∃ z, z = fndX l (atX l j).nm := ⟨_, rfl⟩
              rw [← hz] at hdd
              have HZ := Lib.hid hz
              clear hd hz
              go_wp2_with (go_at_call 36; refine (r21Find_any _ _ _ l _ HN.out _ H.out).mono ?_; rintro e w7 ⟨rfl, rfl⟩; rw [← HZ.out])
              go_ret
              refine ⟨?_, rfl⟩
              rw [mayN, mayG, ← HN.out, HX.out, if_neg (by simp), if_neg (by omega), upto_yes (k := j) hlt (by simp [dupI, HD.out])]; rfl
          · obtain rfl : j = k := by omega
            go_wp2_with fail
            go_ret
            refine ⟨?_, rfl⟩
            rw [mayN, mayG, ← HN.out, HX.out, if_neg (by simp), if_neg (by omega), HY.out]; rfl

set_option maxHeartbeats 400000 in
theorem xmay_any (ad : Option Addr) (cap n : Nat) (l : List Sec) (hn : n = l.length) (w : World) (h : RdX w ad cap l) (ho : XOk l) :
    Calls Try.prog 55 #[.slice ad n cap] w fun e w' => e = .returned (.int .i64 (mayP l)) ∧ Kp [] w w' := by
  have H := Lib.hid h
  have HN := Lib.hid hn
  have hcap := h.1
  rw [← hn] at hcap
  have hcap2 := h.2.1
  clear h hn
  go_enter Try.func55, Try.ntmps55
  go_wp2_with fail
  go_loopw [3, 4, 5, 8] (fun ve _ _ vi wr => ∃ (k : Nat) (z : Int), k ≤ n ∧ vi = .int .i64 k ∧ ve = .int .i64 z ∧ Hid (z = if upto k (dupI l) then 8 else 0) ∧ Hid (upto k (badI l) = false) ∧ Kp [] w wr) (fun _ _ _ vi _ => n - (intOf vi).toNat)
  case atStart => exact ⟨0, 0, Nat.zero_le _, rfl, rfl, Lib.hid rfl, Lib.hid rfl, Kp.refl _ _⟩
  case round =>
    obtain ⟨k, z, hk, rfl, rfl, HZ, HX, kp⟩ := hrel
    by_cases hlt : k < n
    · have hkl : k < l.length := by rw [← HN.out]; exact hlt
      obtain ⟨b, off, rfl, c0, c1⟩ := (H.out.keep0 kp).atX k hkl
      obtain ⟨-, hsz, hbl⟩ := (ho.at' k hkl)
      obtain ⟨x, hx⟩ : ∃ x, x = atX l k := ⟨_, rfl⟩
      rw [← hx] at c0 c1 hsz hbl
      have HNM := Lib.hid hx
      have HK := Lib.hid kp
      have HKL := Lib.hid hkl
      clear hx hkl kp
      cases hi : isNm x.nm with
      | true =>
        have HI := Lib.hid hi
        clear hi
        go_wp2_with fail
        refine (xIsName_any _ _ hsz).mono ?_
        rintro e w2 ⟨rfl, kp2⟩
        rw [HI.out]
        have hp0 : w2.cell? ⟨wr.heap.size, 0, none⟩ = some (.string x.nm) := kp2.cell (by simp) (by simp)
        have hp1 : w2.cell? ⟨wr.heap.size, 1, none⟩ = some (.slice x.ad x.bs.length x.cap) := kp2.cell (by simp) (by simp)
        have HK2 := Lib.hid ((HK.out.alloc _).tr kp2)
        clear kp2
        by_cases hb : (1073741824 : Int) < (x.bs.length : Int)
        · go_wp2_with fail
          go_ret
          refine ⟨?_, HK2.out⟩
          rw [mayP, mayG, upto_yes (k := k) HKL.out (by rw [badI, ← HNM.out, decide_eq_true (by omega), Bool.or_true])]; rfl
        · have hbad : badI l k = false := by rw [badI, ← HNM.out, HI.out, decide_eq_false (by omega)]; rfl
          have HB : Hid (upto (k + 1) (badI l) = false) := Lib.hid (by rw [upto_step, HX.out, hbad]; rfl)
          clear hbad
          obtain ⟨y, hy⟩ : ∃ y, y = fndX l x.nm := ⟨_, rfl⟩
          have HY := Lib.hid hy
          have hdup : dupI l k = !decide (y = (k : Int)) := by rw [dupI, ← HNM.out, ← hy]
          have HD := Lib.hid hdup
          clear hdup hy
          by_cases hd : y = (k : Int)
          · have HE := Lib.hid hd
            go_wp2_with fail
            refine (xFind_any _ _ _ l _ HN.out _ (H.out.keep0 HK2.out)).mono ?_
            rintro e w3 ⟨rfl, kp3⟩
            rw [← HY.out, HE.out]
            have HK3 := Lib.hid (HK2.out.tr kp3)
            clear kp3 hd
            go_wp2_with fail
            go_roundw
            case rel => exact ⟨k + 1, z, hlt, by go_num, rfl, Lib.hid (by rw [HZ.out, upto_step, HD.out, HE.out]; simp), HB, HK3.out⟩
            case measure => simp [intOf]; omega
          · have hq : (y != (k : Int)) = true := by simpa using hd
            have HE := Lib.hid hd
            go_wp2_with fail
            refine (xFind_any _ _ _ l _ HN.out _ (H.out.keep0 HK2.out)).mono ?_
            rintro e w3 ⟨rfl, kp3⟩
            rw [← HY.out]
            have HK3 := Lib.hid (HK2.out.tr kp3)
            clear kp3 hd
            go_wp2_with fail
            go_roundw
            case rel => exact ⟨k + 1, 8, hlt, by go_num, rfl, Lib.hid (by rw [upto_step, HD.out, decide_eq_false HE.out]; simp), HB, HK3.out⟩
            case measure => simp [intOf]; omega
      | false =>
        have HI := Lib.hid hi
        clear hi
        go_wp2_with fail
        refine (xIsName_any _ _ hsz).mono ?_
        rintro e w2 ⟨rfl, kp2⟩
        rw [HI.out]
        have HK2 := Lib.hid ((HK.out.alloc _).tr kp2)
        clear kp2
        go_wp2_with fail
        go_ret
        refine ⟨?_, HK2.out⟩
        rw [mayP, mayG, upto_yes (k := k) HKL.out (by rw [badI, ← HNM.out, HI.out]; rfl)]; rfl
    · obtain rfl : k = n := by omega
      by_cases h2 : (2000 : Int) < (k : Int)
      · go_wp2_with fail
        go_ret
        refine ⟨?_, kp⟩
        rw [mayP, mayG, ← HN.out, HX.out, if_neg (by simp), if_pos (by omega)]; rfl
      · go_wp2_with fail
        go_ret
        refine ⟨?_, kp⟩
        rw [mayP, mayG, ← HN.out, HX.out, if_neg (by simp), if_neg (by omega), HZ.out]; rfl
end Go.Proofs.Ytegnobdablbahaa
