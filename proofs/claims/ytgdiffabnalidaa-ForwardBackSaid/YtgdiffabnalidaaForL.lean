/-
  The walk of ForwardReads.
-/
import Derived.Test.YtgdiffabnalidaaForJ
import Derived.Test.YtgdiffabnalidaaForK
namespace Go.Proofs.Ytgdiffabnalidaa
open Go.RowKit
set_option linter.unusedSimpArgs false
set_option linter.unusedVariables false

/-- Where there is no error: an index of these ids. -/
def IdxIf (lo : Nat) (ec : Int) (v : Option Addr) (l : List Int) (q : Nat) (w : World) : Prop := ec = 0 → ∃ p, v = some ⟨p, 0, none⟩ ∧ FXh w lo p l q
theorem IdxIf.keepS {lo : Nat} {ec : Int} {v : Option Addr} {l : List Int} {q : Nat} {w w' : World} (h : IdxIf lo ec v l q w) {S : List Nat} (k : Kp S w w') (hS : ∀ x, x ∈ S → x < lo) : IdxIf lo ec v l q w' := fun h0 =>
  let ⟨c, h1, h2⟩ := h h0; ⟨c, h1, h2.keepS k hS⟩
theorem IdxIf.keep {lo : Nat} {ec : Int} {v : Option Addr} {l : List Int} {q : Nat} {w w' : World} (h : IdxIf lo ec v l q w) (k : Kp [] w w') : IdxIf lo ec v l q w' := h.keepS k (by simp)

set_option maxRecDepth 100000 in
set_option maxHeartbeats 2000000 in
theorem reads12_walk (a0 : Option Addr) (cap0 : Nat) (bs : List Int) (rows many : Int) (w : World) (r0 : Rd w .u8 a0 cap0 bs) (hb8 : Bytes8 bs) :
    Calls Try.prog 10 #[.slice a0 bs.length cap0, .int .i64 rows, .int .i64 many] w fun e w' => e = .returned (.bool true) ∧ Kp [] w w' := by
  obtain ⟨n, hn⟩ : ∃ n, n = bs.length := ⟨_, rfl⟩
  rw [← hn]
  have HN := Lib.hid hn
  have HR := Lib.hid r0
  have HB := Lib.hid hb8
  clear hn r0 hb8
  by_cases h1 : 2000 < n
  · go_enter Try.func10, Try.ntmps10
    go_wp2_with (go_at_call 23; refine (known12 _).mono ?_; rintro e w' ⟨rfl, kp⟩)
    go_ret
    exact ⟨rfl, kp⟩
  obtain ⟨ec, hec⟩ : ∃ ec, ec = frE bs rows many := ⟨_, rfl⟩
  have HE := Lib.hid hec
  clear hec
  go_enter Try.func10, Try.ntmps10
  go_wp2_with (at_builtin; refine wpList_app rfl (.tmp 17) (.tmp 18) 24 24 rfl w.heap.size 5 .u8 1 Try.underlying24 infoU8 (some ⟨w.heap.size, 0, none⟩) 0 0 [] rfl bs _ n HN.out rfl rfl (.inl ⟨rfl, rfl⟩) (by rw [HN.out]; exact src_rd (HR.out.alloc _) Try.underlying24) (by omega) (by omega) (by simp) ?_; intro ad1 cap1 w1 ho1 kp1 hob1 _)
  have kw1 : Kp [] w w1 := ((Kp.refl [] w).alloc _).trans kp1 (by simp) (by simp [ob])
  rw [List.nil_append] at ho1
  refine (fRead_any ad1 cap1 n bs HN.out rows many w1 ho1.rd HB.out (by omega)).mono ?_
  rintro e w2 ⟨kp2, v, rfl, hv0, hv1⟩
  rw [← HE.out] at hv0 hv1 ⊢
  have ho2 := ho1.keep0 kp2
  have kw2 := kw1.tr kp2
  have HV0 := Lib.hid hv0
  have HV1 := Lib.hid hv1
  clear hv0 hv1
  go_wp2_with fail
  refine (r12Read_any a0 cap0 n bs HN.out rows many w2 (HR.out.keep0 kw2) HB.out (by omega) (HR.out.keep0 kw2).lt).mono ?_
  rintro e w3 ⟨ad3, cap3, s, rfl, kp3, ho3, hs⟩
  rw [← HE.out] at hs ⊢
  have HS := Lib.hid hs
  have ho2' := ho2.keep0 kp3
  have kw3 := kw2.tr kp3
  clear hs
  have hcol : IdxIf w1.heap.size ec v (frL bs) (frM bs) w3 := (show IdxIf w1.heap.size ec v (frL bs) (frM bs) w2 from HV0.out).keep kp3
  have HCOL := Lib.hid hcol
  have hcv1 := conv_str (P := Try.prog) w3 24 9 5 Try.underlying24 Try.underlying5 Try.underlying9 ad1 cap1 n bs ho2'.rd HN.out
  have hcv0 := conv_str (P := Try.prog) w3 24 9 5 Try.underlying24 Try.underlying5 Try.underlying9 a0 cap0 n bs (HR.out.keep0 kw3) HN.out
  have hg1 : ∀ b, b ∈ ob ad1 cap1 → b < w1.heap.size := fun b hb => (ho1.ob_ge b hb).2
  have HG := Lib.hid hg1
  have HO := Lib.hid ho2'
  have HO3 := Lib.hid ho3
  have z2 := kp2.size
  clear hcol hg1 ho1 ho2 ho2' ho3 kp1 kp2 kp3 kw1 kw2 hob1 HV0
  go_wp2_with fail
  clear hcv1 hcv0
  go_loopw [46] (fun i wr => ∃ (k : Nat) (s' : List Int), k ≤ n ∧ i = .int .i64 k ∧ s'.length = n ∧ Own wr w.heap.size 5 .u8 ad1 cap1 s' ∧ IdxIf w1.heap.size ec v (frL bs) (frM bs) wr ∧ Own wr w2.heap.size 3 .i64 ad3 cap3 s ∧ Kp [] w wr) (fun i _ => n - (intOf i).toNat)
  case atStart => exact ⟨0, bs, Nat.zero_le _, rfl, HN.out.symm, HO.out, HCOL.out, HO3.out, kw3⟩
  case round =>
    obtain ⟨k, s', hk, rfl, hs', ho', hcol', ho3', kp'⟩ := hrel
    have HS' := Lib.hid hs'
    clear hs' kw3
    by_cases hlt : k < n
    · obtain ⟨g, rfl, q1, q2, q3, q4⟩ := ho'.at' (i := k) (by rw [HS'.out]; exact hlt)
      have hgl := HG.out g q4
      go_wp2_with fail
      go_roundw
      case rel =>
        refine ⟨k + 1, _, hlt, by go_num, ?_, ho'.set k _, ?_, ?_, kp'.setCell _ _ (.inr q3)⟩
        · simp [HS'.out]
        · exact hcol'.keepS ((Kp.refl [g] wr).setCell _ _ (by simp)) (by intro x hx; simp at hx; omega)
        · exact ho3'.keep ((Kp.refl [g] wr).setCell _ _ (by simp)) (fun b hb => by have := (ho3'.ob_ge b hb).1; simp; omega)
      case measure => simp [intOf]; omega
    · by_cases h0 : ec = 0
      · obtain ⟨c, rfl, hcc⟩ := hcol' h0
        have hsr : s = frL bs := by rw [HS.out, if_pos h0]
        obtain ⟨hfit, -, hok, -⟩ := fr_ok HB.out (by have := HN.out; omega) (show frE bs rows many = 0 by rw [← HE.out]; exact h0)
        have hmany : (frM bs : Int) = many := hfit.2.1
        have HSR := Lib.hid hsr
        rw [← hsr] at hok hcc
        obtain ⟨q, hq⟩ : ∃ q, q = frM bs := ⟨_, rfl⟩
        rw [← hq] at hok hcc hmany
        subst hmany
        subst h0
        have HCC := Lib.hid hcc
        have HOK := Lib.hid hok
        clear hsr hcol' hcc hok hfit hq
        go_wp2_with fail
        refine (told12_any c q ad3 cap3 s.length s rfl 0 _ HCC.out.fx HOK.out ho3'.rd).mono ?_
        rintro e w5 ⟨rfl, kp5⟩
        go_wp2_with fail
        refine (known12 _).mono ?_
        rintro e w6 ⟨rfl, kp6⟩
        go_wp2_with fail
        go_ret
        exact ⟨rfl, (kp'.tr kp5).tr kp6⟩
      · have hv : v = none := HV1.out h0
        have h0' : (ec == 0) = false := by rw [beq_eq_false_iff_ne]; exact h0
        have h0'' : (ec != 0) = true := by rw [bne_iff_ne]; exact h0
        subst hv
        clear h0 hcol'
        go_wp2_with fail
        refine (known12 _).mono ?_
        rintro e w6 ⟨rfl, kp6⟩
        go_wp2_with fail
        go_ret
        exact ⟨rfl, kp'.tr kp6⟩
end Go.Proofs.Ytgdiffabnalidaa
