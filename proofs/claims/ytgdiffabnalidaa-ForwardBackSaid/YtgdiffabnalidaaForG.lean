/-
  Forward: what isinglassref12's May, Of, Same and Bytes tell.
-/
import Derived.Test.YtgdiffabnalidaaForE
import Derived.Test.YtgdiffabnalidaaPackB
namespace Go.Proofs.Ytgdiffabnalidaa
open Go.RowKit
set_option linter.unusedSimpArgs false
set_option linter.unusedVariables false

theorem infoIntF : (Try.prog.info? 3).map (fun i => (i.zero, i.size, i.bytes)) = some (some (.int .i64 0), 1, 8) := by kernel_rfl
theorem r12May_any (n m : Int) (w : World) : Calls Try.prog 44 #[.int .i64 n, .int .i64 m] w fun e w' => e = .returned (.bool (decide (mayF n m))) ∧ w' = w := by
  go_enter Try.func44, Try.ntmps44
  by_cases h1 : 1 ≤ m
  · by_cases h2 : m ≤ 16777216
    · go_wp2_with fail
      go_ret
      exact ⟨by rw [decide_eq_true (show mayF n m from .inl ⟨h1, h2⟩)]; rfl, rfl⟩
    · have h3 : (m == 0) = false := by simp; omega
      go_wp2_with fail
      go_ret
      exact ⟨by rw [decide_eq_false (show ¬ mayF n m from fun h => by rcases h with h | h <;> omega)]; rfl, rfl⟩
  · cases h3 : m == 0
    · go_wp2_with fail
      go_ret
      exact ⟨by rw [decide_eq_false (show ¬ mayF n m from fun h => by simp at h3; rcases h with h | h <;> omega)]; rfl, rfl⟩
    · cases h4 : n == 0
      · go_wp2_with fail
        go_ret
        exact ⟨by rw [decide_eq_false (show ¬ mayF n m from fun h => by simp at h3 h4; rcases h with h | h <;> omega)]; rfl, rfl⟩
      · go_wp2_with fail
        go_ret
        exact ⟨by rw [decide_eq_true (show mayF n m from .inr ⟨by simpa using h3, by simpa using h4⟩)]; rfl, rfl⟩

set_option maxHeartbeats 800000 in
theorem r12Of_any (a0 : Option Addr) (cap0 n : Nat) (l : List Int) (m : Int) (hn : n = l.length) (w : World) (h : Rd w .i64 a0 cap0 l) :
    Calls Try.prog 29 #[.slice a0 n cap0, .int .i64 m] w fun e w' => ((ofOk l m ∧ e = .returned (.int .i64 0)) ∨ (¬ ofOk l m ∧ e = .returned (.int .i64 2))) ∧ w' = w := by
  have HN := Lib.hid hn
  have H := Lib.hid h
  have hb : n ≤ 9223372036854775807 := by have := h.1; have := h.2.1; omega
  clear hn h
  by_cases hm : mayF (n : Int) m
  · have HM := Lib.hid hm
    have hmt := decide_eq_true hm
    clear hm
    go_enter Try.func29, Try.ntmps29
    go_wp2_with fail
    refine (r12May_any (n : Int) m w).mono ?_
    rw [hmt]
    rintro e w7 ⟨rfl, h7⟩
    subst w7
    go_wp2_with fail
    go_loop [5] (fun vi => ∃ k : Nat, k ≤ n ∧ vi = .int .i64 k ∧ Hid (∀ i, i < k → 0 ≤ nth l i ∧ nth l i < m)) (fun vi => n - (intOf vi).toNat)
    case atStart => exact ⟨0, Nat.zero_le _, rfl, Lib.hid (fun i hi => by omega)⟩
    case round =>
      obtain ⟨k, hk, rfl, HA⟩ := hrel
      by_cases hlt : k < n
      · have hkl : k < l.length := by rw [← HN.out]; exact hlt
        obtain ⟨b, off, rfl, hc⟩ := H.out.2.2 k hkl
        obtain ⟨z, hz⟩ : ∃ z, z = nth l k := ⟨_, rfl⟩
        rw [← hz] at hc
        have HZ := Lib.hid hz
        have HKL := Lib.hid hkl
        clear hz hkl
        by_cases h1 : z < 0
        · go_wp2_with fail
          go_ret
          exact ⟨.inr ⟨fun ho => by have := (ho.2 k HKL.out).1; rw [← HZ.out] at this; omega, rfl⟩, rfl⟩
        · by_cases h2 : z < m
          · have h3 : ¬ m ≤ z := by omega
            go_wp2_with fail
            go_round
            case rel =>
              refine ⟨k + 1, hlt, by go_num, Lib.hid (fun i hi => ?_)⟩
              by_cases hik : i = k
              · rw [hik, ← HZ.out]; exact ⟨by omega, h2⟩
              · exact HA.out i (by omega)
            case measure => simp [intOf]; omega
          · have h3 : m ≤ z := by omega
            go_wp2_with fail
            go_ret
            exact ⟨.inr ⟨fun ho => by have := (ho.2 k HKL.out).2; rw [← HZ.out] at this; omega, rfl⟩, rfl⟩
      · obtain rfl : k = n := by omega
        go_wp2_with fail
        go_ret
        exact ⟨.inl ⟨⟨by rw [← HN.out]; exact HM.out, fun i hi => HA.out i (by rw [HN.out]; exact hi)⟩, rfl⟩, rfl⟩
  · have HM := Lib.hid hm
    have hmt := decide_eq_false hm
    clear hm
    go_enter Try.func29, Try.ntmps29
    go_wp2_with fail
    refine (r12May_any (n : Int) m w).mono ?_
    rw [hmt]
    rintro e w7 ⟨rfl, h7⟩
    subst w7
    go_wp2_with fail
    go_ret
    exact ⟨.inr ⟨fun ho => HM.out (by rw [HN.out]; exact ho.1), rfl⟩, rfl⟩

set_option maxHeartbeats 400000 in
theorem r12Same_yes (a0 a1 : Option Addr) (cap0 cap1 : Nat) (zs : List Int) (n : Nat) (hn : n = zs.length) (w : World) (h0 : Rd w .i64 a0 cap0 zs) (h1 : Rd w .i64 a1 cap1 zs) :
    Calls Try.prog 30 #[.slice a0 n cap0, .slice a1 n cap1] w fun e w' => e = .returned (.bool true) ∧ Kp [] w w' := by
  have HN := Lib.hid hn
  have hb : n ≤ 9223372036854775807 := by have := h0.1; have := h0.2.1; omega
  have H0 := Lib.hid h0
  have H1 := Lib.hid h1
  clear hn h0 h1
  go_enter Try.func30, Try.ntmps30
  go_wp2
  go_loopw [5] (fun i wr => ∃ k : Nat, k ≤ n ∧ i = .int .i64 k ∧ Kp [] w wr) (fun i _ => n - (intOf i).toNat)
  case atStart => exact ⟨0, Nat.zero_le _, rfl, Kp.refl _ _⟩
  case round =>
    obtain ⟨k, hk, rfl, kp⟩ := hrel
    by_cases hlt : k < n
    · obtain ⟨b, off, rfl, hc⟩ := (H0.out.keep0 kp).2.2 k (by rw [← HN.out]; exact hlt)
      obtain ⟨b', off', rfl, hc'⟩ := (H1.out.keep0 kp).2.2 k (by rw [← HN.out]; exact hlt)
      have hlt' : (k : Int) < (n : Int) := by omega
      go_wp2
      go_quiet (fail)
      go_wp2
      go_roundw
      case rel => exact ⟨k + 1, hlt, by go_num, ⟨kp.os, kp.tape, kp.output, kp.size, kp.block⟩⟩
      case measure => simp [intOf]; omega
    · go_wp2
      go_ret
      exact ⟨rfl, kp⟩

/-- What the document's bytes are. -/
theorem packL_ids {l : List Int} {q : Nat} (ho : IdsOk l q) : packL l (wdF q : Nat) = packs (wdF q) l := by
  have h1 := ho.rng
  have h2 := ho.hn
  rw [packL, if_pos]
  · rfl
  · refine ⟨⟨by omega, by omega, by omega, by omega⟩, by simpa using ho.fit⟩
theorem ids_u64 {l : List Int} {q : Nat} (ho : IdsOk l q) : U64s l := fun z hz => by
  have := ho.mem z hz
  have := ho.hq
  exact ⟨by omega, by omega⟩

set_option maxHeartbeats 1600000 in
set_option maxRecDepth 100000 in
theorem r12Bytes_any (a0 : Option Addr) (cap0 n : Nat) (l : List Int) (q : Nat) (hn : n = l.length) (ho : IdsOk l q) (w : World) (h : Rd w .i64 a0 cap0 l) :
    Calls Try.prog 48 #[.slice a0 n cap0, .int .i64 (q : Int)] w fun e w' => ∃ ad cap, e = .returned (.slice ad (9 + sizeN n (wdF q)) cap) ∧ Own w' w.heap.size 5 .u8 ad cap (imgF l q) ∧ Kp [] w w' := by
  have HN := Lib.hid hn
  have HR := Lib.hid h
  have HO := Lib.hid ho
  have hb : n ≤ 1000000 := by rw [hn]; exact ho.hn
  have hq := ho.hq
  have hw2 := ho.rng
  obtain ⟨wd, hwd⟩ : ∃ wd, wd = wdF q := ⟨_, rfl⟩
  rw [← hwd] at hw2 ⊢
  have HWD := Lib.hid hwd
  have hsz : sizeN n wd ≤ 3000001 := by
    have := sizeN_lt n wd
    have h3 : n * wd ≤ 1000000 * 24 := Nat.mul_le_mul hb hw2.2
    omega
  clear hn h ho hwd
  have x1 : IntKind.u64.wrap (n : Int) = (n : Int) := IntWalk.u64_in _ (by omega)
  have x2 : IntKind.u64.wrap (q : Int) = (q : Int) := IntWalk.u64_in _ (by omega)
  have x3 : IntKind.u8.wrap (wd : Int) = (wd : Int) := IntWalk.u8_in _ (by omega)
  go_enter Try.func48, Try.ntmps48
  go_wp2_with fail
  refine (little_any n 4 w (by omega) (by omega)).mono ?_
  rintro e w1 ⟨ad1, cap1, rfl, ho1, kp1⟩
  go_wp2_with fail
  refine (little_any q 4 w1 (by omega) (by omega)).mono ?_
  rintro e w2 ⟨ad2, cap2, rfl, ho2, kp2⟩
  have ho1' := ho1.keep0 kp2
  have hs1 := kp1.size
  have hs2 := kp2.size
  have kw2 : Kp [] w w2 := kp1.trans kp2 (by simp) (by simp)
  clear ho1 kp1 kp2
  go_wp2_with (at_builtin; go_must (refine wpList_app rfl (.tmp 13) (.tmp 16) 24 24 rfl w.heap.size 5 .u8 1 Try.underlying24 infoU8 ad1 cap1 4 (le n 4) (by simp [le_length]) (le q 4) _ 4 (by simp [le_length]) rfl rfl ho1' (by have := src_rd (P := Try.prog) ho2.rd Try.underlying24; rwa [le_length] at this) (by omega) (by omega) (by omega) ?_); intro ad3 cap3 w3 ho3 kp3 hob3 _)
  have kw3 : Kp [] w w3 := kw2.trans kp3 (by simp) (fun x hx => .inr (ho1'.ob_ge x hx).1)
  have hs3 := kw3.size
  have HK3 := Lib.hid kw3
  have HO3 := Lib.hid ho3
  clear ho1' ho2 hs1 hs2 kw2 kp3 hob3 ho3 kw3
  refine (r12Width_any q w3 hq).mono ?_
  rw [← HWD.out]
  rintro e w7 ⟨rfl, h7⟩
  subst w7
  go_wp2_with (at_builtin; go_must (refine wpList_app rfl (.tmp 18) (.tmp 22) 24 24 rfl w.heap.size 5 .u8 1 Try.underlying24 infoU8 ad3 cap3 8 (le n 4 ++ le q 4) (by simp [le_length]) [(wd : Int)] _ 1 rfl rfl rfl (HO3.out.alloc _) (src_one Try.underlying24 (World.cell?_alloc_at _ _ _ _ rfl)) (by omega) (by omega) (by simp; omega) ?_); intro ad5 cap5 w5 ho5 kp5 hob5 _)
  have kw5 : Kp [] w w5 := (HK3.out.alloc _).trans kp5 (by simp) (fun x hx => .inr (HO3.out.ob_ge x hx).1)
  have hs5 := kw5.size
  have HK5 := Lib.hid kw5
  have HO5 := Lib.hid ho5
  clear kp5 hob5 ho5 kw5 hs3
  go_loopw [6, 7] (fun vl i wr => ∃ (k : Nat) (ad : Option Addr) (cap : Nat), k ≤ n ∧ i = .int .i64 k ∧ vl = .slice ad k cap ∧ Hid (Own wr w5.heap.size 31 .u64 ad cap (l.take k)) ∧ Hid (Kp [] w5 wr)) (fun _ i _ => n - (intOf i).toNat)
  case atStart => exact ⟨0, none, 0, Nat.zero_le _, rfl, rfl, Lib.hid (Own.nil _ _ _ _), Lib.hid (Kp.refl _ _)⟩
  case round =>
    obtain ⟨k, ad, cap, hk, rfl, rfl, HOL, HKL⟩ := hrel
    have hsl := HKL.out.size
    by_cases hlt : k < n
    · have hkl : k < l.length := by rw [← HN.out]; exact hlt
      obtain ⟨b, off, rfl, hc⟩ := (HR.out.keep0 (HK5.out.tr HKL.out)).2.2 k hkl
      have hz := HO.out.ids k hkl
      have HST : Hid (l.take k ++ [nth l k] = l.take (k + 1)) := Lib.hid (by rw [List.take_add_one]; simp [nth, hkl])
      have HLK : Hid (k = (l.take k).length) := Lib.hid (by rw [List.length_take]; omega)
      obtain ⟨z, hzz⟩ : ∃ z, z = nth l k := ⟨_, rfl⟩
      rw [← hzz] at hz hc HST
      have x4 : IntKind.u64.wrap z = z := IntWalk.u64_in _ (by omega)
      clear hzz hkl
      go_wp2_with (at_builtin; go_must (refine wpList_app rfl (.tmp 30) (.tmp 36) 22 22 rfl w5.heap.size 31 .u64 8 Try.underlying22 infoU64 ad cap k (l.take k) HLK.out [z] _ 1 rfl rfl rfl (HOL.out.alloc _) (src_one Try.underlying22 (World.cell?_alloc_at _ _ _ _ rfl)) (by omega) (by omega) (by simp; omega) ?_); intro ad7 cap7 w8 ho8 kp8 hob8 _)
      have HO8 : Hid (Own w8 w5.heap.size 31 .u64 ad7 cap7 (l.take (k + 1))) := Lib.hid (by rw [← HST.out]; exact ho8)
      have HK8 := Lib.hid ((HKL.out.alloc _).trans kp8 (U := []) (by simp) (fun x hx => .inr (HOL.out.ob_ge x hx).1))
      clear ho8 kp8 hob8
      go_roundw
      case rel => exact ⟨k + 1, ad7, cap7, hlt, by go_num, rfl, HO8, HK8⟩
      case measure => simp [intOf]; omega
    · obtain rfl : k = n := by omega
      have hol := HOL.out
      rw [show l.take k = l by rw [HN.out, List.take_length]] at hol
      have HOW := Lib.hid hol
      clear hol
      go_wp2_with fail
      refine (r12Width_any q wr hq).mono ?_
      rw [← HWD.out]
      rintro e w7 ⟨rfl, h7⟩
      subst w7
      go_wp2_with fail
      refine (r02pack_all ad cap k (wd : Int) l HN.out wr HOW.out.rd (ids_u64 HO.out) hb).mono ?_
      rw [show packL l (wd : Nat) = packs wd l by rw [HWD.out]; exact packL_ids HO.out]
      rintro e w9 ⟨ad9, cap9, rfl, ho9, kp9⟩
      rw [packs_length, ← HN.out]
      have HO9 := Lib.hid ho9
      have HK9 := Lib.hid (HKL.out.tr kp9)
      have HO10 := Lib.hid (HO5.out.keep0 HK9.out)
      have hs9 := (HK5.out.tr HK9.out).size
      have HLP : Hid (sizeN k wd = (packs wd l).length) := Lib.hid (by rw [packs_length, ← HN.out])
      clear ho9 kp9
      go_wp2_with (at_builtin; go_must (refine wpList_app rfl (.tmp 45) (.tmp 46) 24 24 rfl w.heap.size 5 .u8 1 Try.underlying24 infoU8 ad5 cap5 9 (le k 4 ++ le q 4 ++ [(wd : Int)]) (by simp [le_length]) (packs wd l) _ (sizeN k wd) HLP.out rfl rfl HO10.out (by rw [HLP.out]; exact src_rd HO9.out.rd Try.underlying24) (by omega) (by omega) hs9 ?_); intro ad11 cap11 w11 ho11 kp11 hob11 _)
      have HO11 := Lib.hid ho11
      have HK11 := Lib.hid ((HK5.out.tr HK9.out).trans kp11 (U := []) (by simp) (fun x hx => .inr (HO10.out.ob_ge x hx).1))
      clear ho11 kp11 hob11
      go_ret
      refine ⟨ad11, cap11, rfl, ?_, HK11.out⟩
      rw [imgF, bytesF, ← HN.out, ← HWD.out]
      exact HO11.out
end Go.Proofs.Ytgdiffabnalidaa
