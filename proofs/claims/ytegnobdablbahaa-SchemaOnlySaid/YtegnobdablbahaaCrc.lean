/-
  The sums of package crc and of the document.
-/
import Derived.Test.YtegnobdablbahaaCrcL
import Derived.Laws.Tables
import Derived.Laws.BitsAllLaws
namespace Go.Proofs.Ytegnobdablbahaa
open Go.RowKit
set_option linter.unusedSimpArgs false
set_option linter.unusedVariables false

/-- What a byte does. -/
def tabL : List Int := (List.range 256).map fun i => ((shN 8 i : Nat) : Int)

theorem zero58 (w : World) : Sem.run Try.prog (zeroValue 100) w = .ok (.agg (ints .u32 (List.replicate 256 0))) w := by kernel_rfl
theorem tabL_length : tabL.length = 256 := by simp [tabL]
theorem tabL_nth (i : Nat) (h : i < 256) : nth tabL i = ((shN 8 i : Nat) : Int) := by simp [nth, tabL, h]
/-- The table, as far as it is made. -/
def tabU (k : Nat) : List Int := tabL.take k ++ List.replicate (256 - k) 0
theorem tabU_length (k : Nat) (h : k ≤ 256) : (tabU k).length = 256 := by simp [tabU, tabL_length]; omega
theorem tabU_step (k : Nat) (h : k < 256) : (tabU k).set k ((shN 8 k : Nat) : Int) = tabU (k + 1) := by
  rw [tabU, tabU, take_nth tabL k (by rw [tabL_length]; exact h), tabL_nth k h, List.set_append_right _ _ (by simp [tabL_length]; omega)]
  rw [show k - (tabL.take k).length = 0 by simp [tabL_length]; omega, show 256 - k = (256 - (k + 1)) + 1 by omega, List.replicate_succ]
  simp

theorem neg_and1 (y : Nat) (h : y < 4294967296) : bits .and .u32 3988292384 (-(bits .and .u32 (y : Int) 1) % 4294967296) = ((if y % 2 = 1 then 3988292384 else 0 : Nat) : Int) := by
  have e1 : bits .and .u32 (y : Int) 1 = ((y % 2 : Nat) : Int) := by
    rw [show (1 : Int) = ((1 : Nat) : Int) from rfl, u32_and_nat y 1 h (by omega), nat_mask1]
  rw [e1]
  rcases Nat.mod_two_eq_zero_or_one y with h0 | h0
  · rw [h0]; decide +kernel
  · rw [h0]; decide +kernel
theorem sh1_prog (y : Nat) (h : y < 4294967296) : bits .xor .u32 ((y : Int) / 2) ((if y % 2 = 1 then 3988292384 else 0 : Nat) : Int) = ((sh1 y : Nat) : Int) := by
  rw [show ((y : Int) / 2) = ((y / 2 : Nat) : Int) by omega, u32_xor_nat (y / 2) _ (by omega) (by split <;> omega)]
  unfold sh1
  split
  · rfl
  · rw [Nat.xor_zero]

set_option maxHeartbeats 400000 in
theorem kTable_any (w : World) : Calls Try.prog 78 #[] w fun e w' => e = .returned (.agg (ints .u32 tabL)) ∧ Kp [] w w' := by
  obtain ⟨A, hA⟩ : ∃ A, A = ints .u32 (List.replicate 256 0) := ⟨_, rfl⟩
  have hz := zero58
  rw [← hA] at hz
  have HA := Lib.hid hA
  clear hA
  go_enter Try.func78, Try.ntmps78
  go_wp2
  go_loopw [1, 2, 3, 8] (fun _ _ vi _ wr => ∃ k : Nat, (k : Int) ≤ 256 ∧ vi = .int .i64 k ∧ wr.heap[w.heap.size]? = some (.cells (ints .u32 (tabU k)) 100) ∧ Kp [] w wr) (fun _ _ i _ _ => 256 - (intOf i).toNat)
  case atStart => exact ⟨0, by omega, rfl, by rw [HA.out]; exact heap_alloc_at rfl, (Kp.refl [] w).alloc _⟩
  case round =>
    obtain ⟨k, hk, rfl, hq, kp⟩ := hrel
    have HQ := Lib.hid hq
    have HK := Lib.hid kp
    clear hq kp hz
    by_cases hlt : (k : Int) < 256
    · go_wp2_with fail
      go_loopw [2, 8] (fun vx vj wr' => ∃ (j y : Nat), (j : Int) ≤ 8 ∧ vj = .int .i64 j ∧ vx = .int .u32 y ∧ y < 4294967296 ∧ Hid (y = shN j k) ∧ wr' = wr) (fun _ vj _ => 8 - (intOf vj).toNat)
      case atStart => exact ⟨0, k, by omega, rfl, rfl, by omega, Lib.hid rfl, rfl⟩
      case round =>
        obtain ⟨j, y, hj, rfl, rfl, hy, HJ, rfl⟩ := hrel
        by_cases hjl : (j : Int) < 8
        · have e1 := neg_and1 y hy
          have e2 := sh1_prog y hy
          obtain ⟨q, hq⟩ : ∃ q, q = (if y % 2 = 1 then 3988292384 else 0 : Nat) := ⟨_, rfl⟩
          rw [← hq] at e1 e2
          clear hq
          have hsl := sh1_lt hy
          go_wp2_with fail
          go_roundw
          case rel =>
            refine ⟨j + 1, sh1 y, by omega, by go_num, ?_, hsl, Lib.hid (by rw [HJ.out, shN_snoc]), ?_⟩
            · first | rw [e2] | exact True.intro | exact rfl
            · first | trivial | rfl
          case measure => simp [intOf]; omega
        · obtain rfl : j = 8 := by omega
          have hc := cell_of_row _ _ k _ _ _ HQ.out
          rw [ints_get _ _ _ (by rw [tabU_length k (by omega)]; omega)] at hc
          have hf := frozen_of_row _ _ k _ _ HQ.out
          go_wp2_with fail
          go_roundw
          case rel =>
            refine ⟨k + 1, by omega, by go_num, ?_, HK.out.setCell _ _ (by simp)⟩
            rw [heap_setCell_same _ _ _ _ _ _ HQ.out]
            have e1 := tabU_step k (by omega)
            rw [← HJ.out] at e1
            rw [← e1]
            simp [ints]
          case measure => simp [intOf]; omega
    · obtain rfl : k = 256 := by omega
      have hq := HQ.out
      rw [show tabU 256 = tabL by simp [tabU]; exact List.take_of_length_le (by rw [tabL_length]; exact Nat.le_refl _)] at hq
      obtain ⟨B, hB⟩ : ∃ B, B = ints .u32 tabL := ⟨_, rfl⟩
      rw [← hB] at hq
      have hs : (Try.prog.info? 100).map (fun i => i.size) = some B.size := by rw [hB, ints_size, tabL_length]; kernel_rfl
      have h1 : B.all (fun v => v.oneCell') = true := by rw [hB]; simp [ints, Value.oneCell']
      have HB := Lib.hid hB
      have HS := Lib.hid hs
      have H1 := Lib.hid h1
      have HQ2 := Lib.hid hq
      clear hB hs h1 hq hlt hk
      go_wp2_with first
        | (refine wpList_load_row rfl 100 _ rfl w.heap.size rfl 100 B (0, 0) _ HQ2.out Try.underlying100 rfl HS.out ?_)
        | (refine wpList_store_row rfl 100 _ _ rfl w.heap.size B rfl rfl 100 B HQ2.out HS.out rfl H1.out ?_)
      have hq3 := setRow_heap wr w.heap.size _ B _ _ HQ2.out
      refine bodyPost_ret (v := .agg B) (results_cell_row Try.results78 _ _ w.heap.size 100 B (0, 0) _ rfl hq3 Try.underlying100 rfl HS.out) rfl ⟨by rw [HB.out], HK.out.os, HK.out.tape, HK.out.output, ?_, ?_⟩
      · have := HK.out.size; simpa [World.setRow] using this
      · intro i hi hn
        rw [setRow_other _ _ _ _ (by omega)]
        exact HK.out.block i hi hn

set_option maxHeartbeats 400000 in
theorem r03Sum_any (ad : Option Addr) (cap n : Nat) (zs : List Int) (hn : n = zs.length) (w : World) (hr : Rd w .u8 ad cap zs) (hb : Bytes8 zs) (hl : n ≤ 1099511627776) :
    Calls Try.prog 74 #[.slice ad n cap] w fun e w' => e = .returned (.int .u32 (crc zs : Nat)) ∧ w' = w := by
  have HR := Lib.hid hr.2.2
  have HN := Lib.hid hn
  have hcap := hr.1
  rw [← hn] at hcap
  clear hr hn
  go_enter Try.func74, Try.ntmps74
  go_wp2
  go_loopw [3, 4, 5] (fun vx vi vk wr => ∃ (k : Nat) (x : Nat), k ≤ n ∧ vi = .int .i64 k ∧ vx = .int .u32 x ∧ x < 4294967296 ∧ Hid (x = crcS 4294967295 (zs.take k)) ∧ wr = w) (fun _ i _ _ => n - (intOf i).toNat)
  case atStart => exact ⟨0, _, Nat.zero_le _, rfl, rfl, (by decide : 4294967295 < 4294967296), Lib.hid rfl, rfl⟩
  case round =>
    obtain ⟨k, x, hk, rfl, rfl, hx, HX, rfl⟩ := hrel
    obtain ⟨wo, rfl⟩ : ∃ wo : World, wo = wr := ⟨_, rfl⟩
    by_cases hlt : k < n
    · obtain ⟨b, off, rfl, hc⟩ := HR.out k (by rw [← HN.out]; exact hlt)
      have hz := hb _ (nth_mem (zs := zs) (k := k) (by rw [← HN.out]; exact hlt))
      obtain ⟨c, hcc⟩ := Int.eq_ofNat_of_zero_le hz.1
      rw [hcc] at hc hz
      have he := u32_xor_nat x c hx (by omega)
      obtain ⟨y, hy⟩ : ∃ y, y = x ^^^ c := ⟨_, rfl⟩
      have hylt : y < 4294967296 := by rw [hy]; exact Nat.xor_lt_two_pow (n := 32) hx (by omega)
      rw [← hy] at he
      have HY := Lib.hid hy
      have HC := Lib.hid hcc
      clear hy hcc
      go_wp2_with fail
      go_loopw [3, 5] (fun vx vj wr => ∃ (j y' : Nat), j ≤ 8 ∧ vj = .int .i64 j ∧ vx = .int .u32 y' ∧ y' < 4294967296 ∧ Hid (y' = shN j y) ∧ wr = wo) (fun _ vj _ => 8 - (intOf vj).toNat)
      case atStart => exact ⟨0, y, Nat.zero_le _, rfl, rfl, hylt, Lib.hid rfl, rfl⟩
      case round =>
        obtain ⟨j, y', hj, rfl, rfl, hy', HJ, rfl⟩ := hrel
        clear hc he
        by_cases hjl : j < 8
        · have hd : sh1 y' = if y' % 2 = 1 then (y' / 2) ^^^ 3988292384 else y' / 2 := rfl
          have hsl := sh1_lt hy'
          by_cases hodd : y' % 2 = 1
          · have ho : ((y' : Int) % 2 == 1) = true := by simp; omega
            rw [if_pos hodd] at hd
            have he : bits .xor .u32 ((y' : Int) / 2) 3988292384 = ((sh1 y' : Nat) : Int) := by
              rw [hd, show ((y' : Int) / 2) = ((y' / 2 : Nat) : Int) by omega]; exact u32_xor_nat (y' / 2) 3988292384 (by omega) (by omega)
            clear hd
            go_wp2_with fail
            go_roundw
            case rel => exact ⟨j + 1, sh1 y', hjl, by go_num, by first | trivial | rfl, hsl, Lib.hid (by rw [HJ.out, shN_snoc]), by first | trivial | rfl⟩
            case measure => simp [intOf]; omega
          · have ho : ((y' : Int) % 2 == 1) = false := by simp; omega
            rw [if_neg hodd] at hd
            have he : ((y' : Int) / 2) = ((sh1 y' : Nat) : Int) := by rw [hd]; omega
            clear hd
            go_wp2_with fail
            go_roundw
            case rel => exact ⟨j + 1, sh1 y', hjl, by go_num, by first | trivial | rfl, hsl, Lib.hid (by rw [HJ.out, shN_snoc]), by first | trivial | rfl⟩
            case measure => simp [intOf]; omega
        · obtain rfl : j = 8 := by omega
          go_wp2_with fail
          go_roundw
          case rel => 
            refine ⟨k + 1, y', hlt, by go_num, by first | trivial | rfl, hy', Lib.hid ?_, by first | trivial | rfl⟩
            rw [take_nth zs k (by rw [← HN.out]; exact hlt), crcS_snoc, ← HX.out, HC.out, Int.toNat_natCast, ← HY.out, HJ.out]
          case measure => simp [intOf]; omega
    · obtain rfl : k = n := by omega
      have hxx : (4294967295 : Int) - x = ((crc zs : Nat) : Int) := by
        have := HX.out
        rw [List.take_of_length_le (by rw [HN.out]; exact Nat.le_refl _)] at this
        unfold crc; omega
      go_wp2_with fail
      go_ret
      exact ⟨rfl, rfl⟩

theorem info58 : (Try.prog.info? 100).map (fun i => i.size) = some 256 := by kernel_rfl
set_option maxRecDepth 20000 in
set_option maxHeartbeats 400000 in
theorem kSum_any (ad : Option Addr) (cap n : Nat) (zs : List Int) (hn : n = zs.length) (w : World) (hr : Rd w .u8 ad cap zs) (hb : Bytes8 zs) (hl : n ≤ 1099511627776) :
    Calls Try.prog 73 #[.slice ad n cap] w fun e w' => e = .returned (.int .u32 (crc zs : Nat)) ∧ Kp [] w w' := by
  have HR := Lib.hid hr
  have HN := Lib.hid hn
  have hcap := hr.1
  rw [← hn] at hcap
  clear hr hn
  obtain ⟨A, hA⟩ : ∃ A, A = ints .u32 (List.replicate 256 0) := ⟨_, rfl⟩
  have hz := zero58
  rw [← hA] at hz
  have hAs : A.size = 256 := by rw [hA, ints_size]; exact List.length_replicate
  obtain ⟨B, hB⟩ : ∃ B, B = ints .u32 tabL := ⟨_, rfl⟩
  have hT := kTable_any
  rw [← hB] at hT
  have hBs : B.size = 256 := by rw [hB, ints_size, tabL_length]
  have h1 : B.all (fun v => v.oneCell') = true := by rw [hB]; simp [ints, Value.oneCell']
  have HI : Hid ((Try.prog.info? 100).map (fun i => i.size) = some B.size) := Lib.hid (by rw [hBs]; exact info58)
  have HAB := Lib.hid (hAs.trans hBs.symm)
  have HB := Lib.hid hB
  have HT := Lib.hid hT
  have H1 := Lib.hid h1
  clear hA hB hT hBs h1 hAs
  go_enter Try.func73, Try.ntmps73
  go_wp2_with fail
  refine (HT.out _).mono ?_
  rintro e w1 ⟨rfl, kp1⟩
  have hz2 := hz
  go_wp2_with (refine wpList_store_row rfl 100 _ _ rfl w1.heap.size B rfl rfl 100 A (heap_alloc_at rfl) HI.out HAB.out H1.out ?_)
  have hq := setRow_heap (w1.alloc (.cells A 100)) w1.heap.size A B _ _ (heap_alloc_at rfl)
  have kp2 : Kp [] w ((w1.alloc (.cells A 100)).setRow w1.heap.size B) := by
    refine kp1.tr ⟨rfl, rfl, rfl, (by show w1.heap.size ≤ ((w1.alloc (.cells A 100)).heap.modify w1.heap.size _).size; rw [Array.size_modify]; exact ((Kp.refl [] w1).alloc _).size), fun i hi hn => ?_⟩
    rw [setRow_other _ _ _ _ (by omega), Below.heap_alloc _ _ _ hi]
  generalize (w1.alloc (.cells A 100)).setRow w1.heap.size B = w2 at hq kp2 ⊢
  generalize w1.heap.size = g at hq ⊢
  have HK := Lib.hid kp2
  have HQ := Lib.hid hq
  clear hz hz2 hq kp1 kp2
  go_loopw [4, 6, 10] (fun vx _ vi wr => ∃ (k x : Nat), k ≤ n ∧ vi = .int .i64 k ∧ vx = .int .u32 x ∧ x < 4294967296 ∧ Hid (x = crcS 4294967295 (zs.take k)) ∧ wr = w2) (fun _ _ i _ => n - (intOf i).toNat)
  case atStart => exact ⟨0, _, Nat.zero_le _, rfl, rfl, (by decide : 4294967295 < 4294967296), Lib.hid rfl, rfl⟩
  case round =>
    obtain ⟨k, x, hk, rfl, rfl, hx, HX, rfl⟩ := hrel
    by_cases hlt : k < n
    · obtain ⟨b, off, rfl, hc⟩ := HR.out.2.2 k (by rw [← HN.out]; exact hlt)
      replace hc := HK.out.cell hc (by simp)
      have hz := hb _ (nth_mem (zs := zs) (k := k) (by rw [← HN.out]; exact hlt))
      obtain ⟨c, hcc⟩ := Int.eq_ofNat_of_zero_le hz.1
      rw [hcc] at hc hz
      have hea := u8_xor_nat (x % 256) c (by omega) (by omega)
      rw [show ((x % 256 : Nat) : Int) = (x : Int) % 256 by omega] at hea
      obtain ⟨y, hy⟩ : ∃ y, y = (x % 256) ^^^ c := ⟨_, rfl⟩
      have hylt : y < 256 := by rw [hy]; exact Nat.xor_lt_two_pow (n := 8) (by omega) (by omega)
      have hyi : (y : Int) < 256 := by omega
      rw [← hy] at hea
      have hct := cell_of_row _ g y _ _ _ HQ.out
      rw [HB.out, ints_get _ _ _ (by rw [tabL_length]; exact hylt), tabL_nth y hylt] at hct
      have htl : shN 8 y < 4294967296 := shN_lt 8 (by omega)
      obtain ⟨t, ht⟩ : ∃ t, t = shN 8 y := ⟨_, rfl⟩
      rw [← ht] at hct htl
      have heb := u32_xor_nat (x / 256) t (by omega) htl
      rw [show ((x / 256 : Nat) : Int) = (x : Int) / 256 by omega] at heb
      obtain ⟨x2, hx2⟩ : ∃ x2, x2 = (x / 256) ^^^ t := ⟨_, rfl⟩
      have hx2l : x2 < 4294967296 := by rw [hx2]; exact Nat.xor_lt_two_pow (n := 32) (by omega) htl
      rw [← hx2] at heb
      have HS : Hid (x2 = crcS 4294967295 (zs.take (k + 1))) := Lib.hid (by
        rw [take_nth zs k (by rw [← HN.out]; exact hlt), crcS_snoc, ← HX.out, hcc, Int.toNat_natCast, hx2, ht, hy]; exact step_eq x c)
      clear hy hx2 ht hcc HX hylt
      go_wp2_with fail
      go_roundw
      case rel => exact ⟨k + 1, x2, hlt, by go_num, by first | rw [heb] | exact True.intro | exact rfl, hx2l, HS, by first | rfl | trivial⟩
      case measure => simp [intOf]; omega
    · obtain rfl : k = n := by omega
      have he : bits .xor .u32 IntKind.u32.max (x : Int) = ((crc zs : Nat) : Int) := by
        have := HX.out
        rw [List.take_of_length_le (by rw [HN.out]; exact Nat.le_refl _)] at this
        have e2 := u32_xor_nat 4294967295 x (by decide) hx
        rw [not32 hx] at e2
        unfold crc; rw [← this]; exact e2
      clear HX
      go_wp2_with fail
      go_ret
      exact ⟨rfl, HK.out⟩
end Go.Proofs.Ytegnobdablbahaa
