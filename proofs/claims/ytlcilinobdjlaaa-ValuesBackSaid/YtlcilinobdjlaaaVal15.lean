/-
  Values: the law of what is read again.
-/
import Derived.Test.YtlcilinobdjlaaaVal14
namespace Go.Proofs.Ytlcilinobdjlaaa
open Go.RowKit
set_option linter.unusedSimpArgs false
set_option linter.unusedVariables false

set_option maxRecDepth 100000 in
set_option maxHeartbeats 2000000 in
theorem valuesBack_any (a0 : Option Addr) (cap0 n : Nat) (l : List V3) (a1 : Option Addr) (cap1 m : Nat) (r : List Int) (hn : n = l.length) (hm : m = r.length) (w : World) (hl : RdV w a0 cap0 l) (hw : ∀ v ∈ l, v.wf) (hr : Rd w .u8 a1 cap1 r) (hb : Bytes8 r) :
    Calls Try.prog 11 #[.slice a0 n cap0, .slice a1 m cap1] w fun e w' => e = .returned (.bool true) ∧ Kp [] w w' := by
  have HV := Lib.hid hl
  have HW := Lib.hid hw
  have HR := Lib.hid hr
  have HN := Lib.hid hn
  have HM := Lib.hid hm
  have hcap := hl.1
  rw [← hn] at hcap
  have hcap2 := hl.2.1
  clear hl hw hr hn hm
  go_enter Try.func11, Try.ntmps11
  go_wp2_with fail
  go_loopw [5, 7, 15] (fun vx _ vi wr => ∃ (k : Nat) (x : Int), k ≤ n ∧ vi = .int .i64 k ∧ vx = .int .i64 x ∧ wr = w) (fun _ _ i _ => n - (intOf i).toNat)
  case atStart => exact ⟨0, 0, Nat.zero_le _, rfl, rfl, rfl⟩
  case round =>
    obtain ⟨k, x, hk, rfl, rfl, rfl⟩ := hrel
    by_cases hlt : k < n
    · obtain ⟨b, off, rfl, c0, c1, c2⟩ := HV.out.at' k (by rw [← HN.out]; exact hlt)
      obtain ⟨s, hs⟩ : ∃ s, s = (l[k]'(by rw [← HN.out]; exact hlt)).s := ⟨_, rfl⟩
      rw [← hs] at c2
      clear c0 c1 hs
      go_wp2_with fail
      go_roundw
      case rel => exact ⟨k + 1, _, hlt, by go_num, rfl, by first | rfl | trivial⟩
      case measure => simp [intOf]; omega
    · obtain rfl : k = n := by omega
      by_cases h0 : (100 : Int) < (k : Int)
      · go_wp2_with fail
        refine (known10_any _).mono ?_
        rintro e w1 ⟨rfl, kp1⟩
        go_wp2_with fail
        go_ret
        exact ⟨rfl, kp1⟩
      by_cases h1 : (100000 : Int) < x
      · go_wp2_with fail
        refine (known10_any _).mono ?_
        rintro e w1 ⟨rfl, kp1⟩
        go_wp2_with fail
        go_ret
        exact ⟨rfl, kp1⟩
      by_cases h2 : (1000 : Int) < (m : Int)
      · go_wp2_with fail
        refine (known10_any _).mono ?_
        rintro e w1 ⟨rfl, kp1⟩
        go_wp2_with fail
        go_ret
        exact ⟨rfl, kp1⟩
      obtain ⟨w, rfl⟩ : ∃ w : World, w = wr := ⟨_, rfl⟩
      go_wp2_with fail
      go_loopw [6, 8, 42] (fun vb _ vi wr => ∃ (i lb : Nat) (ad : Option Addr) (cap : Nat), i ≤ k ∧ vi = .int .i64 i ∧ vb = .slice ad lb cap ∧ lb ≤ 100000 * i ∧ Hid (lb = (valsB (l.take i)).length) ∧ Hid (Rd wr .u8 ad cap (valsB (l.take i))) ∧ Hid (∀ v ∈ l.take i, vM v = true) ∧ Kp [] w wr) (fun _ _ i _ => k - (intOf i).toNat)
      case atStart => exact ⟨0, 0, none, 0, Nat.zero_le _, rfl, rfl, Nat.zero_le _, Lib.hid (by simp [valsB]), Lib.hid (by simpa [valsB] using (Own.nil w 0 5 .u8).rd), Lib.hid (by simp), Kp.refl _ _⟩
      case round =>
        obtain ⟨i, lb, ad, cap, hi, rfl, rfl, hlb, HLB, HB, HM2, kp⟩ := hrel
        by_cases hil : i < k
        · have hv := HV.out
          obtain ⟨b, off, rfl, c0, c1, c2⟩ := (hv.keep0 kp).at' i (by rw [← HN.out]; exact hil)
          obtain ⟨v, hvv⟩ : ∃ v, v = l[i]'(by rw [← HN.out]; exact hil) := ⟨_, rfl⟩
          rw [← hvv] at c0 c1 c2
          have HVV := Lib.hid hvv
          have HK := Lib.hid kp
          clear hv hvv kp
          cases hmv : mayV v.k v.n v.s with
          | false =>
            have HMV := Lib.hid hmv
            clear hmv
            go_wp2_with (go_at_call 22; refine (vMay_any _ _ _ _).mono ?_; rintro e w7 ⟨rfl, kp7⟩; rw [HMV.out]; have HK7 := Lib.hid (HK.out.tr kp7); clear kp7)
            refine (known10_any _).mono ?_
            rintro e w1 ⟨rfl, kp1⟩
            go_wp2_with fail
            go_ret
            exact ⟨rfl, HK7.out.tr kp1⟩
          | true =>
            have hvs : v.s.size ≤ 65535 := by
              unfold mayV at hmv
              by_cases hk1 : v.k == 1
              · rw [if_pos hk1] at hmv
                have := hmv
                rw [beq_iff_eq, ByteArray.toList_eq] at this
                have h3 : v.s.data.toList.length = 0 := by rw [this]; rfl
                have h4 : v.s.size = v.s.data.toList.length := by simp
                omega
              · rw [if_neg hk1] at hmv
                have := hmv
                simp at this
                omega
            have HMV := Lib.hid hmv
            have hbl := vB_length v
            obtain ⟨lv, hlv⟩ : ∃ lv, lv = (vB v).length := ⟨_, rfl⟩
            rw [← hlv] at hbl
            have HLV := Lib.hid hlv
            clear hmv hlv
            go_wp2_with first
              | (go_at_call 22; refine (vMay_any _ _ _ _).mono ?_; rintro e w7 ⟨rfl, kp7⟩; rw [HMV.out]; have HK7 := Lib.hid (HK.out.tr kp7); have d0 := kp7.cell c0 (by simp); have d1 := kp7.cell c1 (by simp); have d2 := kp7.cell c2 (by simp); have HB7 := Lib.hid (HB.out.keep0 kp7); clear kp7 c0 c1 c2)
            refine (vAppend_any v.k v.n v.s ad cap lb (valsB (l.take i)) HLB.out _ HB7.out (by omega) (by omega)).mono ?_
            rintro e w8 ⟨ad8, cap8, rfl, ho8, kp8⟩
            have hlv' : (valB v.k v.n v.s).length = lv := HLV.out.symm
            rw [hlv']
            have HO8 := Lib.hid ho8
            have HK8 := Lib.hid (HK7.out.tr kp8)
            clear ho8 kp8 hlv' d0 d1 d2
            go_wp2_with fail
            go_roundw
            case rel =>
              refine ⟨i + 1, lb + lv, ad8, cap8, hil, by go_num, rfl, by omega, Lib.hid ?_, Lib.hid ?_, Lib.hid ?_, HK8.out⟩
              · rw [valsB_snoc l i (by rw [← HN.out]; exact hil), List.length_append, ← HLB.out, ← HVV.out, ← HLV.out]
              · rw [valsB_snoc l i (by rw [← HN.out]; exact hil), ← HVV.out]; exact HO8.out.rd
              · intro y hy
                rw [List.take_succ_eq_append_getElem (by rw [← HN.out]; exact hil)] at hy
                rcases List.mem_append.1 hy with hy | hy
                · exact HM2.out y hy
                · simp at hy; rw [hy, ← HVV.out]; exact HMV.out
            case measure => simp [intOf]; omega
        · obtain rfl : i = k := by omega
          have htk : l.take i = l := List.take_of_length_le (by have := HN.out; omega)
          rw [htk] at HLB HB HM2
          have hbl := HLB.out
          obtain ⟨bs, hbs⟩ : ∃ bs, bs = valsB l := ⟨_, rfl⟩
          rw [← hbs] at HLB HB
          have HBS := Lib.hid hbs
          have HK := Lib.hid kp
          clear hbs kp htk hbl
          go_wp2_with first
            | (at_builtin; refine wpList_app rfl (.tmp 59) (.tmp 60) 22 22 rfl w.heap.size 5 .u8 1 Try.underlying22 infoU8 (some ⟨wr.heap.size, 0, none⟩) 0 0 [] rfl bs (.slice ad lb cap) lb HLB.out rfl rfl (.inl ⟨rfl, rfl⟩) (by rw [HLB.out]; exact src_rd (HB.out.alloc _) Try.underlying22) (by omega) (by omega) (by have := HK.out.size; simp; omega) ?_; intro ad2 cap2 w2 ho2 kp2 hob2 _; rw [List.nil_append] at ho2; have HO2 := Lib.hid ho2; have HK2 := Lib.hid (HK.out.tr (((Kp.refl [] wr).alloc (Obj.cells #[] 5)).trans kp2 (U := []) (by simp) (by simp [ob]))); clear ho2 kp2 hob2)
            | (at_builtin; refine wpList_app rfl (.tmp 61) (.tmp 62) 22 22 rfl w.heap.size 5 .u8 1 Try.underlying22 infoU8 ad2 cap2 lb bs HLB.out r (.slice a1 m cap1) m HM.out (by first | rfl | simp) rfl HO2.out (by rw [HM.out]; exact src_rd (HR.out.keep0 HK2.out) Try.underlying22) (by omega) (by omega) HK2.out.size ?_; intro ad3 cap3 w3 ho3 kp3 hob3 _; have HO3 := Lib.hid ho3; have HK3 := Lib.hid (HK2.out.trans kp3 (U := []) (by simp) (fun x hx => .inr (HO2.out.ob_ge x hx).1)); clear ho3 kp3 hob3)
          have hbr : Bytes8 (bs ++ r) := bytes8_append (by rw [HBS.out]; exact valsB_bytes l (fun v hv => by have := (HW.out v hv).2.2; unfold maxLen at this; omega)) hb
          have HBR := Lib.hid hbr
          have hlr : lb + m = (bs ++ r).length := by rw [List.length_append, ← HLB.out, ← HM.out]
          refine (cnew_any ad3 cap3 (lb + m) (bs ++ r) hlr _ HO3.out.rd (by omega)).mono ?_
          rintro e w4 ⟨p, rfl, hp, hd4, kp4⟩
          have HD4 := Lib.hid hd4
          have HK4 := Lib.hid (HK3.out.tr kp4)
          have hp0 : w.heap.size ≤ p := Nat.le_trans HK3.out.size hp
          obtain ⟨L, hL⟩ : ∃ L, L = w4.heap.size := ⟨_, rfl⟩
          have hLle : L ≤ w4.heap.size := Nat.le_of_eq hL
          rw [← hL] at HD4
          have HLR := Lib.hid hlr
          clear hbr hd4 kp4 hlr hL hp
          go_wp2_with fail
          go_loopw [10, 11, 12, 67] (fun _ _ _ vi wr => ∃ j : Nat, j ≤ i ∧ vi = .int .i64 j ∧ Hid (Rdr wr L p (bs ++ r) (valsB (l.take j)).length false) ∧ Kp [] w wr ∧ L ≤ wr.heap.size) (fun _ _ _ vi _ => i - (intOf vi).toNat)
          case atStart => exact ⟨0, Nat.zero_le _, rfl, Lib.hid (by simpa [valsB] using HD4.out), HK4.out, hLle⟩
          case round =>
            obtain ⟨j, hj, rfl, HD, kp, hLr⟩ := hrel
            by_cases hjl : j < i
            · have hjn : j < l.length := by rw [← HN.out]; exact hjl
              obtain ⟨b, off, hab, c0, c1, c2⟩ := (HV.out.keep0 kp).at' j hjn
              subst hab
              obtain ⟨v, hvv⟩ : ∃ v, v = l[j] := ⟨_, rfl⟩
              rw [← hvv] at c0 c1 c2
              have hmem : v ∈ l := by rw [hvv]; exact List.getElem_mem hjn
              have hsplit : bs ++ r = valsB (l.take j) ++ (vB v ++ (valsB (l.drop (j + 1)) ++ r)) := by
                rw [HBS.out]
                conv => lhs; rw [← List.take_append_drop (j + 1) l]
                unfold valsB
                rw [List.flatMap_append]
                have := valsB_snoc l j hjn
                unfold valsB at this
                rw [this, ← hvv]; simp
              have hsub : sub (bs ++ r) (valsB (l.take j)).length ((valsB (l.take j)).length + (vB v).length) = vB v := by
                rw [hsplit]; exact sub_mid _ _ _ _ _ rfl rfl
              have hlen : (valsB (l.take j)).length + (vB v).length ≤ (bs ++ r).length := by rw [hsplit]; simp
              have hvr := vread_back p (bs ++ r) (valsB (l.take j)).length v wr HD.out HBR.out hLr (HM2.out v hmem) (HW.out v hmem) hlen hsub
              have hnx : (valsB (l.take (j + 1))).length = (valsB (l.take j)).length + (vB v).length := by rw [valsB_snoc l j hjn, List.length_append, ← hvv]
              rw [← hnx] at hvr
              have HVR := Lib.hid hvr
              have HKP := Lib.hid kp
              clear hvv hmem hsplit hsub hlen hvr hnx kp HD
              go_wp2_with fail
              refine HVR.out.mono ?_
              rintro e w5 ⟨rfl, hd5, kp5⟩
              have hbw : b < w.heap.size := HV.out.lt ⟨b, off, none⟩ rfl (by rintro rfl; simp at hjn)
              have d0 := kp5.cell c0 (by simp; omega)
              have d1 := kp5.cell c1 (by simp; omega)
              have d2 := kp5.cell c2 (by simp; omega)
              have HK5 := Lib.hid (HKP.out.trans kp5 (U := []) (by simp) (fun x hx => .inr (by simp at hx; omega)))
              have HD5 := Lib.hid (hd5.keep ((Kp.refl [] w5).alloc (.cells #[.int .u8 v.k, .int .i64 v.n, .string v.s] 36)))
              have hs5 := kp5.size
              have hb5 : b < w5.heap.size := by have := HKP.out.size; omega
              clear c0 c1 c2 kp5 hd5 HVR
              go_wp2_with fail
              have HK6 := Lib.hid (HK5.out.alloc (.cells #[.int .u8 v.k, .int .i64 v.n, .string v.s] 36))
              have hs6 : L ≤ (w5.alloc (.cells #[.int .u8 v.k, .int .i64 v.n, .string v.s] 36)).heap.size := by simp; omega
              have e0 := cell_alloc (o := .cells #[.int .u8 v.k, .int .i64 v.n, .string v.s] 36) d0
              have e1 := cell_alloc (o := .cells #[.int .u8 v.k, .int .i64 v.n, .string v.s] 36) d1
              have e2 := cell_alloc (o := .cells #[.int .u8 v.k, .int .i64 v.n, .string v.s] 36) d2
              obtain ⟨f0, f1, f2⟩ := cells3 (heap_alloc_at (w := w5) (o := .cells #[.int .u8 v.k, .int .i64 v.n, .string v.s] 36) rfl)
              generalize w5.alloc (.cells #[.int .u8 v.k, .int .i64 v.n, .string v.s] 36) = w6 at *
              generalize w5.heap.size = b11 at *
              clear d0 d1 d2
              go_region
              go_wp2_with fail
              go_roundw
              case rel => exact ⟨j + 1, hjl, by go_num, Lib.hid (HD5.out.keep (Kp.refl [] w6).drew), HK6.out.drew, hs6⟩
              case measure => simp [intOf]; omega
            · obtain rfl : j = i := by omega
              have htk : l.take j = l := List.take_of_length_le (by have := HN.out; omega)
              have hd := HD.out
              rw [htk, ← HBS.out, ← HLB.out] at hd
              have HD' := Lib.hid hd
              have HK := Lib.hid kp
              clear htk hd kp HD
              go_wp2_with first
                | (go_at_call 31; refine (cat_any p (bs ++ r) lb false _ HD'.out).mono ?_; rintro e w5 ⟨rfl, rfl⟩)
                | (go_at_call 32; refine (cbad_any p (bs ++ r) lb false _ HD'.out).mono ?_; rintro e w5 ⟨rfl, rfl⟩)
              refine (known10_any _).mono ?_
              rintro e w6 ⟨rfl, kp6⟩
              go_wp2_with fail
              go_ret
              exact ⟨rfl, HK.out.tr kp6⟩
end Go.Proofs.Ytlcilinobdjlaaa
