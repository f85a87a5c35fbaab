/-
  Schema: whether columns may be.
-/
import Derived.Test.YtfacpfogdcefpaaSch2
import Derived.Test.YtfacpfogdcefpaaSec4
namespace Go.Proofs.Ytfacpfogdcefpaa
open Go.RowKit
set_option linter.unusedSimpArgs false
set_option linter.unusedVariables false

/-- What spoils a column, but for another one of its name. -/
def badK (l : List Col) (i : Nat) : Bool := !isNmC (atC l i).nm || decide ((atC l i).kd < 1) || decide (3 < (atC l i).kd)
def dupC (l : List Col) (i : Nat) : Bool := !decide (fndC l (atC l i).nm = i)
def sameN (l : List Col) (i k : Nat) : Bool := (atC l k).nm.toList == (atC l i).nm.toList
def dupR (l : List Col) (i : Nat) : Bool := upto i (sameN l i)
/-- May columns be? -/
def mayC (l : List Col) : Bool := !upto l.length (fun i => badK l i || dupC l i) && decide (1 ≤ l.length ∧ l.length ≤ 256)

theorem fnd_lt : ∀ (L : List ByteArray) (s : ByteArray) (o k : Nat) (hk : k < L.length), ((∀ j (h : j < k), (L[j].toList == s.toList) = false) ∧ (L[k].toList == s.toList) = true) → fnd L s o = ((o + k : Nat) : Int)
  | x :: L, s, o, 0, _, h => by
    have := h.2
    simp only [List.getElem_cons_zero] at this
    rw [fnd, if_pos this]; rfl
  | x :: L, s, o, k + 1, hk, h => by
    have h0 := h.1 0 (by omega)
    simp only [List.getElem_cons_zero] at h0
    rw [fnd, if_neg (by simp [h0]), fnd_lt L s (o + 1) k (by simpa using hk) ⟨fun j hj => by have := h.1 (j + 1) (by omega); simpa using this, by simpa using h.2⟩]
    congr 1; omega
theorem upto_false {n : Nat} {p : Nat → Bool} (h : ∀ k, k < n → p k = false) : upto n p = false := by
  cases hu : upto n p
  · rfl
  · simp only [upto, List.any_eq_true, List.mem_range] at hu
    obtain ⟨k, hk, hp⟩ := hu
    rw [h k hk] at hp; cases hp
theorem upto_ex {n : Nat} {p : Nat → Bool} (h : upto n p = true) : ∃ k, k < n ∧ p k = true := by
  simpa only [upto, List.any_eq_true, List.mem_range] using h
theorem upto_congr {n : Nat} {p q : Nat → Bool} (h : ∀ k, k < n → p k = q k) : upto n p = upto n q := by
  cases hu : upto n q
  · exact upto_false fun k hk => by rw [h k hk]; exact upto_no hk hu
  · obtain ⟨k, hk, hq⟩ := upto_ex hu
    exact upto_yes hk (by rw [h k hk]; exact hq)
/-- The first place at which a text stands. -/
theorem least_of (p : Nat → Bool) : ∀ n, p n = true → ∃ m, m ≤ n ∧ p m = true ∧ ∀ j, j < m → p j = false := by
  intro n
  induction n using Nat.strongRecOn with
  | ind n ih =>
    intro h
    by_cases hx : upto n p = true
    · obtain ⟨k, hk, hp⟩ := upto_ex hx
      obtain ⟨m, h1, h2, h3⟩ := ih k hk hp
      exact ⟨m, by omega, h2, h3⟩
    · refine ⟨n, Nat.le_refl _, h, fun j hj => ?_⟩
      exact upto_no hj (by simpa using hx)
theorem fndC_least (l : List Col) (i : Nat) (hi : i < l.length) : ∃ m, m ≤ i ∧ sameN l i m = true ∧ (∀ j, j < m → sameN l i j = false) ∧ fndC l (atC l i).nm = (m : Int) := by
  obtain ⟨m, h1, h2, h3⟩ := least_of (sameN l i) i (by simp [sameN])
  refine ⟨m, h1, h2, h3, ?_⟩
  have := fnd_lt (l.map (·.nm)) (atC l i).nm 0 m (by simp; omega) ⟨fun j hj => ?_, ?_⟩
  · rw [fndC, this, Nat.zero_add]
  · have := h3 j hj
    rw [sameN, atC_eq l j (by omega)] at this
    simpa using this
  · rw [sameN, atC_eq l m (by omega)] at h2
    simpa using h2
theorem dup_eq (l : List Col) (i : Nat) (hi : i < l.length) : dupC l i = dupR l i := by
  obtain ⟨m, h1, h2, h3, h4⟩ := fndC_least l i hi
  rw [dupC, h4, dupR]
  by_cases he : m = i
  · subst he
    rw [upto_false h3]; simp
  · rw [upto_yes (k := m) (by omega) h2, decide_eq_false (by omega)]; rfl
/-- What the document answers. -/
def mayR (l : List Col) : Bool := !upto l.length (fun i => badK l i || dupR l i) && decide (1 ≤ l.length ∧ l.length ≤ 256)
theorem mayR_eq (l : List Col) : mayR l = mayC l := by
  rw [mayR, mayC, upto_congr (q := fun i => badK l i || dupC l i) fun k hk => by simp only [dup_eq l k hk]]

set_option maxHeartbeats 800000 in
theorem sMay_any (ad : Option Addr) (cap n : Nat) (l : List Col) (hn : n = l.length) (w : World) (h : RdC w ad cap l) (ho : COk l) :
    Calls Try.prog 37 #[.slice ad n cap] w fun e w' => e = .returned (.bool (mayC l)) ∧ Kp [] w w' := by
  have H := Lib.hid h
  have HN := Lib.hid hn
  have HO := Lib.hid ho
  have hcap := h.1
  rw [← hn] at hcap
  have hcap2 := h.2.1
  clear h hn ho
  go_enter Try.func37, Try.ntmps37
  go_wp2_with fail
  go_loopw [3, 4, 7] (fun _ _ vi wr => ∃ k : Nat, k ≤ n ∧ vi = .int .i64 k ∧ Hid (upto k (fun i => badK l i || dupC l i) = false) ∧ Kp [] w wr) (fun _ _ vi _ => n - (intOf vi).toNat)
  case atStart => exact ⟨0, Nat.zero_le _, rfl, Lib.hid rfl, Kp.refl _ _⟩
  case round =>
    obtain ⟨k, hk, rfl, HX, kp⟩ := hrel
    by_cases hlt : k < n
    · have hkl : k < l.length := by rw [← HN.out]; exact hlt
      obtain ⟨b, off, rfl, c0, c1⟩ := (H.out.keep0 kp).atC k hkl
      obtain ⟨hsz, hk0, hk1⟩ := (HO.out.at' k hkl)
      have HBAD : Hid ((badK l k || dupC l k) = true → mayC l = false) := Lib.hid fun hb => by
        rw [mayC, upto_yes (k := k) hkl hb]; rfl
      have HSTEP : Hid ((badK l k || dupC l k) = false → upto (k + 1) (fun i => badK l i || dupC l i) = false) := Lib.hid fun hb => by rw [upto_step, HX.out, hb]; rfl
      obtain ⟨x, hx⟩ : ∃ x, x = atC l k := ⟨_, rfl⟩
      rw [← hx] at c0 c1 hsz hk0 hk1
      have HNM := Lib.hid hx
      have HK := Lib.hid kp
      have HKL := Lib.hid hkl
      clear hx hkl kp
      have HBK : Hid (badK l k = (!isNmC x.nm || decide (x.kd < 1) || decide (3 < x.kd))) := Lib.hid (by rw [badK, ← HNM.out])
      cases hi : isNmC x.nm with
      | true =>
        have HI := Lib.hid hi
        clear hi
        by_cases k0 : x.kd < 1
        · go_wp2_with fail
          refine (sIsName_any _ _ hsz).mono ?_
          rintro e w2 ⟨rfl, kp2⟩
          rw [HI.out]
          have hp0 : w2.cell? ⟨wr.heap.size, 0, none⟩ = some (.string x.nm) := kp2.cell (by simp) (by simp)
          have hp1 : w2.cell? ⟨wr.heap.size, 1, none⟩ = some (.int .u8 x.kd) := kp2.cell (by simp) (by simp)
          have HK2 := Lib.hid ((HK.out.alloc _).tr kp2)
          clear kp2
          go_wp2_with fail
          go_ret
          refine ⟨?_, HK2.out⟩
          rw [HBAD.out (by rw [HBK.out, decide_eq_true k0]; simp)]; rfl
        · by_cases k1 : (3 : Int) < x.kd
          · go_wp2_with fail
            refine (sIsName_any _ _ hsz).mono ?_
            rintro e w2 ⟨rfl, kp2⟩
            rw [HI.out]
            have hp0 : w2.cell? ⟨wr.heap.size, 0, none⟩ = some (.string x.nm) := kp2.cell (by simp) (by simp)
            have hp1 : w2.cell? ⟨wr.heap.size, 1, none⟩ = some (.int .u8 x.kd) := kp2.cell (by simp) (by simp)
            have HK2 := Lib.hid ((HK.out.alloc _).tr kp2)
            clear kp2
            go_wp2_with fail
            go_ret
            refine ⟨?_, HK2.out⟩
            rw [HBAD.out (by rw [HBK.out, decide_eq_true k1]; simp)]; rfl
          · have HB0 : Hid (badK l k = false) := Lib.hid (by rw [HBK.out, HI.out, decide_eq_false k0, decide_eq_false k1]; rfl)
            obtain ⟨y, hy⟩ : ∃ y, y = fndC l x.nm := ⟨_, rfl⟩
            have HY := Lib.hid hy
            have HD : Hid (dupC l k = !decide (y = (k : Int))) := Lib.hid (by rw [dupC, ← HNM.out, ← hy])
            clear hy
            by_cases hd : y = (k : Int)
            · have HE := Lib.hid hd
              go_wp2_with fail
              refine (sIsName_any _ _ hsz).mono ?_
              rintro e w2 ⟨rfl, kp2⟩
              rw [HI.out]
              have hp0 : w2.cell? ⟨wr.heap.size, 0, none⟩ = some (.string x.nm) := kp2.cell (by simp) (by simp)
              have hp1 : w2.cell? ⟨wr.heap.size, 1, none⟩ = some (.int .u8 x.kd) := kp2.cell (by simp) (by simp)
              have HK2 := Lib.hid ((HK.out.alloc _).tr kp2)
              clear kp2
              go_wp2_with fail
              refine (sFind_any _ _ _ l _ HN.out _ (H.out.keep0 HK2.out)).mono ?_
              rintro e w3 ⟨rfl, kp3⟩
              rw [← HY.out, HE.out]
              have HK3 := Lib.hid (HK2.out.tr kp3)
              clear kp3 hd
              go_wp2_with fail
              go_roundw
              case rel => exact ⟨k + 1, hlt, by go_num, Lib.hid (HSTEP.out (by rw [HB0.out, HD.out, HE.out]; simp)), HK3.out⟩
              case measure => simp [intOf]; omega
            · have hq : (y != (k : Int)) = true := by simpa using hd
              have HE := Lib.hid hd
              go_wp2_with fail
              refine (sIsName_any _ _ hsz).mono ?_
              rintro e w2 ⟨rfl, kp2⟩
              rw [HI.out]
              have hp0 : w2.cell? ⟨wr.heap.size, 0, none⟩ = some (.string x.nm) := kp2.cell (by simp) (by simp)
              have hp1 : w2.cell? ⟨wr.heap.size, 1, none⟩ = some (.int .u8 x.kd) := kp2.cell (by simp) (by simp)
              have HK2 := Lib.hid ((HK.out.alloc _).tr kp2)
              clear kp2
              go_wp2_with fail
              refine (sFind_any _ _ _ l _ HN.out _ (H.out.keep0 HK2.out)).mono ?_
              rintro e w3 ⟨rfl, kp3⟩
              rw [← HY.out]
              have HK3 := Lib.hid (HK2.out.tr kp3)
              clear kp3 hd
              go_wp2_with fail
              go_ret
              refine ⟨?_, HK3.out⟩
              rw [HBAD.out (by rw [HD.out, decide_eq_false HE.out]; simp)]; rfl
      | false =>
        have HI := Lib.hid hi
        clear hi
        go_wp2_with fail
        refine (sIsName_any _ _ hsz).mono ?_
        rintro e w2 ⟨rfl, kp2⟩
        rw [HI.out]
        have HK2 := Lib.hid ((HK.out.alloc _).tr kp2)
        clear kp2
        go_wp2_with fail
        go_ret
        refine ⟨?_, HK2.out⟩
        rw [HBAD.out (by rw [HBK.out, HI.out]; simp)]; rfl
    · obtain rfl : k = n := by omega
      have HM : Hid (mayC l = decide (1 ≤ k ∧ k ≤ 256)) := Lib.hid (by rw [mayC, ← HN.out, HX.out]; rfl)
      by_cases h1 : (1 : Int) ≤ (k : Int)
      · by_cases h2 : (k : Int) ≤ 256
        · go_wp2_with fail
          go_ret
          refine ⟨?_, kp⟩
          rw [HM.out, decide_eq_true (by omega)]; rfl
        · go_wp2_with fail
          go_ret
          refine ⟨?_, kp⟩
          rw [HM.out, decide_eq_false (by omega)]; rfl
      · go_wp2_with fail
        go_ret
        refine ⟨?_, kp⟩
        rw [HM.out, decide_eq_false (by omega)]; rfl

set_option maxHeartbeats 800000 in
theorem r17May_any (ad : Option Addr) (cap n : Nat) (l : List Col) (hn : n = l.length) (w : World) (h : RdC w ad cap l) (ho : COk l) :
    Calls Try.prog 40 #[.slice ad n cap] w fun e w' => e = .returned (.bool (mayC l)) ∧ Kp [] w w' := by
  rw [← mayR_eq]
  have H := Lib.hid h
  have HN := Lib.hid hn
  have HO := Lib.hid ho
  have hcap := h.1
  rw [← hn] at hcap
  have hcap2 := h.2.1
  clear h hn ho
  go_enter Try.func40, Try.ntmps40
  go_wp2_with fail
  go_loopw [3, 4] (fun vi _ wr => ∃ k : Nat, k ≤ n ∧ vi = .int .i64 k ∧ Hid (upto k (fun i => badK l i || dupR l i) = false) ∧ Kp [] w wr) (fun vi _ _ => n - (intOf vi).toNat)
  case atStart => exact ⟨0, Nat.zero_le _, rfl, Lib.hid rfl, Kp.refl _ _⟩
  case round =>
    obtain ⟨k, hk, rfl, HX, kp⟩ := hrel
    by_cases hlt : k < n
    · have hkl : k < l.length := by rw [← HN.out]; exact hlt
      obtain ⟨b, off, rfl, c0, c1⟩ := (H.out.keep0 kp).atC k hkl
      obtain ⟨hsz, hk0, hk1⟩ := (HO.out.at' k hkl)
      have HBAD : Hid ((badK l k || dupR l k) = true → mayR l = false) := Lib.hid fun hb => by
        rw [mayR, upto_yes (k := k) hkl hb]; rfl
      have HSTEP : Hid ((badK l k || dupR l k) = false → upto (k + 1) (fun i => badK l i || dupR l i) = false) := Lib.hid fun hb => by rw [upto_step, HX.out, hb]; rfl
      obtain ⟨x, hx⟩ : ∃ x, x = atC l k := ⟨_, rfl⟩
      rw [← hx] at c0 c1 hsz hk0 hk1
      have HNM := Lib.hid hx
      have HK := Lib.hid kp
      have HKL := Lib.hid hkl
      clear hx hkl kp
      have HBK : Hid (badK l k = (!isNmC x.nm || decide (x.kd < 1) || decide (3 < x.kd))) := Lib.hid (by rw [badK, ← HNM.out])
      cases hi : isNmC x.nm with
      | true =>
        have HI := Lib.hid hi
        clear hi
        by_cases k0 : x.kd < 1
        · go_wp2_with (go_at_call 63; refine (r17name_any _ _ hsz).mono ?_; rintro e w2 ⟨rfl, rfl⟩; rw [HI.out])
          go_ret
          refine ⟨?_, HK.out⟩
          rw [HBAD.out (by rw [HBK.out, decide_eq_true k0]; simp)]; rfl
        · by_cases k1 : (3 : Int) < x.kd
          · go_wp2_with (go_at_call 63; refine (r17name_any _ _ hsz).mono ?_; rintro e w2 ⟨rfl, rfl⟩; rw [HI.out])
            go_ret
            refine ⟨?_, HK.out⟩
            rw [HBAD.out (by rw [HBK.out, decide_eq_true k1]; simp)]; rfl
          · have HB0 : Hid (badK l k = false) := Lib.hid (by rw [HBK.out, HI.out, decide_eq_false k0, decide_eq_false k1]; rfl)
            go_wp2_with (go_at_call 63; refine (r17name_any _ _ hsz).mono ?_; rintro e w2 ⟨rfl, rfl⟩; rw [HI.out])
            go_loopw [4] (fun vj wj => ∃ j : Nat, j ≤ k ∧ vj = .int .i64 j ∧ Hid (upto j (sameN l k) = false) ∧ Kp [] w wj) (fun vj _ => k - (intOf vj).toNat)
            case atStart => exact ⟨0, Nat.zero_le _, rfl, Lib.hid rfl, HK.out⟩
            case round =>
              obtain ⟨j, hj, rfl, HY, kpj⟩ := hrel
              by_cases hjk : j < k
              · obtain ⟨b', off', hb, d0, -⟩ := (H.out.keep0 kpj).atC j (by have := HKL.out; omega)
                cases hb
                obtain ⟨b', off', hb, d1, -⟩ := (H.out.keep0 kpj).atC k HKL.out
                cases hb
                rw [← HNM.out] at d1
                have HKJ := Lib.hid kpj
                obtain ⟨y, hy⟩ : ∃ y, y = (atC l j).nm := ⟨_, rfl⟩
                rw [← hy] at d0
                have HS : Hid (sameN l k j = (y.toList == x.nm.toList)) := Lib.hid (by rw [sameN, ← hy, ← HNM.out])
                clear hy kpj c0 c1
                cases he : y.toList == x.nm.toList with
                | true =>
                  have HEQ := Lib.hid he
                  go_wp2_with go_quiet (fail)
                  go_ret
                  refine ⟨?_, HKJ.out.tr (kdN _ _)⟩
                  rw [HBAD.out (by rw [dupR, upto_yes (k := j) hjk (by rw [HS.out, HEQ.out])]; simp)]; rfl
                | false =>
                  have HEQ := Lib.hid he
                  go_wp2_with go_quiet (fail)
                  go_roundw
                  case rel => exact ⟨j + 1, hjk, by go_num, Lib.hid (by rw [upto_step, HY.out, HS.out, HEQ.out]; rfl), HKJ.out.tr (kdN _ _)⟩
                  case measure => simp [intOf]; omega
              · obtain rfl : j = k := by omega
                go_wp2_with fail
                go_roundw
                case rel => exact ⟨j + 1, hlt, by go_num, Lib.hid (HSTEP.out (by rw [HB0.out, dupR, HY.out]; rfl)), kpj⟩
                case measure => simp [intOf]; omega
      | false =>
        have HI := Lib.hid hi
        clear hi
        go_wp2_with (go_at_call 63; refine (r17name_any _ _ hsz).mono ?_; rintro e w2 ⟨rfl, rfl⟩; rw [HI.out])
        go_ret
        refine ⟨?_, HK.out⟩
        rw [HBAD.out (by rw [HBK.out, HI.out]; simp)]; rfl
    · obtain rfl : k = n := by omega
      have HM : Hid (mayR l = decide (1 ≤ k ∧ k ≤ 256)) := Lib.hid (by rw [mayR, ← HN.out, HX.out]; rfl)
      by_cases h1 : (0 : Int) < (k : Int)
      · by_cases h2 : (k : Int) ≤ 256
        · go_wp2_with fail
          go_ret
          refine ⟨?_, kp⟩
          rw [HM.out, decide_eq_true (by omega)]; rfl
        · go_wp2_with fail
          go_ret
          refine ⟨?_, kp⟩
          rw [HM.out, decide_eq_false (by omega)]; rfl
      · go_wp2_with fail
        go_ret
        refine ⟨?_, kp⟩
        rw [HM.out, decide_eq_false (by omega)]; rfl
end Go.Proofs.Ytfacpfogdcefpaa
