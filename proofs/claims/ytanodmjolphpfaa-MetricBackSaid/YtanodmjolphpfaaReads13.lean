/-
  The walk of MetricReads: it returns true.
-/
import Derived.Test.YtanodmjolphpfaaTold13
import Derived.Test.YtanodmjolphpfaaRead13R
namespace Go.Proofs.Ytanodmjolphpfaa
open Go.RowKit
set_option linter.unusedSimpArgs false
set_option linter.unusedVariables false

theorem Rd.lt {w : World} {k : IntKind} {ad : Option Addr} {cap : Nat} {zs : List Int} (h : Rd w k ad cap zs) : ∀ x, ad = some x → zs ≠ [] → x.block < w.heap.size := by
  intro x hx hne
  have h0 : 0 < zs.length := by cases zs with | nil => exact (hne rfl).elim | cons y l => simp
  obtain ⟨b, off, h1, h2⟩ := h.2.2 0 h0
  rw [h1] at hx; cases hx
  exact World.block_lt_of_cell? w _ h2
theorem rdCnt_le (bs : List Int) (rows : Int) (h : rdErr bs rows = 0) : 20 + 8 * rdCnt bs = bs.length := by
  unfold rdErr at h
  split at h
  · omega
  · split at h
    · omega
    · split at h
      · omega
      · split at h
        · omega
        · rename_i h1 h2 h3 h4; omega
/-- Where there is no error: a column of these numbers. -/
def ColIf (lo : Nat) (ec : Int) (v : Option Addr) (l : List Int) (w : World) : Prop := ec = 0 → ∃ c, v = some ⟨c, 0, none⟩ ∧ lo < c ∧ IsCol w c l
theorem ColIf.keepS {lo : Nat} {ec : Int} {v : Option Addr} {l : List Int} {w w' : World} (h : ColIf lo ec v l w) {S : List Nat} (k : Kp S w w') (hS : ∀ x, x ∈ S → x < lo) : ColIf lo ec v l w' := fun h0 =>
  let ⟨c, h1, h2, h3⟩ := h h0; ⟨c, h1, h2, h3.keepS k (fun b hb => by have := hS b hb; omega)⟩
theorem ColIf.keep {lo : Nat} {ec : Int} {v : Option Addr} {l : List Int} {w w' : World} (h : ColIf lo ec v l w) (k : Kp [] w w') : ColIf lo ec v l w' := h.keepS k (by simp)

set_option maxHeartbeats 1000000 in
theorem reads_walk (a0 : Option Addr) (cap0 : Nat) (bs : List Int) (rows : Int) (w : World) (r0 : Rd w .u8 a0 cap0 bs) (hb8 : Bytes8 bs) :
    Calls Try.prog 11 #[.slice a0 bs.length cap0, .int .i64 rows] w fun e w' => e = .returned (.bool true) ∧ Kp [] w w' := by
  obtain ⟨n, hn⟩ : ∃ n, n = bs.length := ⟨_, rfl⟩
  rw [← hn]
  have HN := Lib.hid hn
  have HR := Lib.hid r0
  have HB := Lib.hid hb8
  clear hn r0 hb8
  by_cases h1 : 3000 < n
  · go_enter Try.func11, Try.ntmps11
    go_wp2_with (go_at_call 13; refine (known13 _).mono ?_; rintro e w' ⟨rfl, kp⟩)
    go_ret
    exact ⟨rfl, kp⟩
  obtain ⟨ec, hec⟩ : ∃ ec, ec = rdErr bs rows := ⟨_, rfl⟩
  have HE := Lib.hid hec
  clear hec
  go_enter Try.func11, Try.ntmps11
  go_wp2_with (at_builtin; refine wpList_app rfl (.tmp 15) (.tmp 16) 40 40 rfl w.heap.size 5 .u8 1 Try.underlying40 infoU8 (some ⟨w.heap.size, 0, none⟩) 0 0 [] rfl bs _ n HN.out rfl rfl (.inl ⟨rfl, rfl⟩) (by rw [HN.out]; exact src_rd (HR.out.alloc _) Try.underlying40) (by omega) (by omega) (by simp) ?_; intro ad1 cap1 w1 ho1 kp1 hob1 _)
  have kw1 : Kp [] w w1 := ((Kp.refl [] w).alloc _).trans kp1 (by simp) (by simp [ob])
  rw [List.nil_append] at ho1
  refine (mread_any ad1 cap1 n bs HN.out rows w1 ho1.rd HB.out (by omega)).mono ?_
  rintro e w2 ⟨v, rfl, kp2, hv0, hv1⟩
  rw [← HE.out] at hv0 hv1 ⊢
  have ho2 := ho1.keep0 kp2
  have kw2 := kw1.tr kp2
  have HV0 := Lib.hid hv0
  have HV1 := Lib.hid hv1
  clear hv0 hv1
  go_wp2_with fail
  refine (r13read_any a0 cap0 n bs HN.out rows w2 (HR.out.keep0 kw2) HB.out (by omega) (HR.out.keep0 kw2).lt).mono ?_
  rintro e w3 ⟨ad3, cap3, s, rfl, kp3, ho3, hs⟩
  rw [← HE.out] at hs ⊢
  have HS := Lib.hid hs
  have ho2' := ho2.keep0 kp3
  have kw3 := kw2.tr kp3
  clear hs
  have hcol : ColIf w1.heap.size ec v (rdNums bs (rdCnt bs)) w3 := (show ColIf w1.heap.size ec v (rdNums bs (rdCnt bs)) w2 from HV0.out).keep kp3
  have HCOL := Lib.hid hcol
  have hcv1 := conv_str (P := Try.prog) w3 40 9 5 Try.underlying40 Try.underlying5 Try.underlying9 ad1 cap1 n bs ho2'.rd HN.out
  have hcv0 := conv_str (P := Try.prog) w3 40 9 5 Try.underlying40 Try.underlying5 Try.underlying9 a0 cap0 n bs (HR.out.keep0 kw3) HN.out
  have hg1 : ∀ b, b ∈ ob ad1 cap1 → b < w1.heap.size := fun b hb => (ho1.ob_ge b hb).2
  have HG := Lib.hid hg1
  have HO := Lib.hid ho2'
  have HO3 := Lib.hid ho3
  have z2 := kp2.size
  clear hcol hg1 ho1 ho2 ho2' ho3 kp1 kp2 kp3 kw1 kw2 hob1 HV0
  go_wp2_with fail
  clear hcv1 hcv0
  go_loopw [42] (fun i wr => ∃ (k : Nat) (s' : List Int), k ≤ n ∧ i = .int .i64 k ∧ s'.length = n ∧ Own wr w.heap.size 5 .u8 ad1 cap1 s' ∧ ColIf w1.heap.size ec v (rdNums bs (rdCnt bs)) wr ∧ Own wr w2.heap.size 2 .i64 ad3 cap3 s ∧ Kp [] w wr) (fun i _ => n - (intOf i).toNat)
  case atStart => exact ⟨0, bs, Nat.zero_le _, rfl, HN.out.symm, HO.out, HCOL.out, HO3.out, kw3⟩
  case round =>
    obtain ⟨k, s', hk, rfl, hs', ho', hcol', ho3', kp'⟩ := hrel
    have HS' := Lib.hid hs'
    clear hs' kw3
    by_cases hlt : k < n
    · obtain ⟨g, rfl, q1, q2, q3, q4⟩ := ho'.at' (i := k) (by rw [HS'.out]; exact hlt)
      have hgl := HG.out g q4
      go_wp2_with fail
      go_roundw
      case rel =>
        have kset := (Kp.refl [g] wr).setCell ⟨g, k, none⟩ (.int .u8 (IntKind.u8.wrap (nth s' k + 1))) (by simp)
        refine ⟨k + 1, _, hlt, by go_num, ?_, ho'.set k _, ?_, ?_, kp'.setCell _ _ (.inr q3)⟩
        · simp [HS'.out]
        · exact hcol'.keepS ((Kp.refl [g] wr).setCell _ _ (by simp)) (by intro x hx; simp at hx; omega)
        · exact ho3'.keep ((Kp.refl [g] wr).setCell _ _ (by simp)) (fun b hb => by have := (ho3'.ob_ge b hb).1; simp; omega)
      case measure => simp [intOf]; omega
    · by_cases h0 : ec = 0
      · obtain ⟨c, rfl, hcl, hcc⟩ := hcol' h0
        have hsr : s = rdNums bs (rdCnt bs) := by rw [HS.out, if_pos h0]
        have hcnt := rdCnt_le bs rows (by rw [← HE.out]; exact h0)
        have hlen : s.length = rdCnt bs := by rw [hsr, rdNums_length]
        have HSR := Lib.hid hsr
        have hl3 : s.length ≤ 100000 := by have := HN.out; omega
        subst h0
        rw [← HSR.out] at hcc
        have HCC := Lib.hid hcc
        clear hsr hcnt hlen hcol' hcc
        go_wp2_with fail
        refine (told_any c s ad3 cap3 s.length rfl 0 s.length _ HCC.out ho3'.rd hl3).mono ?_
        rintro e w5 ⟨rfl, kp5⟩
        go_wp2_with fail
        refine (known13 _).mono ?_
        rintro e w6 ⟨rfl, kp6⟩
        go_wp2_with fail
        go_ret
        exact ⟨rfl, (kp'.tr kp5).tr kp6⟩
      · have hv : v = none := HV1.out h0
        have h0' : (ec == 0) = false := by rw [beq_eq_false_iff_ne]; exact h0
        have h0'' : (ec != 0) = true := by rw [bne_iff_ne]; exact h0
        subst hv
        clear h0 hcol'
        go_wp2_with fail
        refine (known13 _).mono ?_
        rintro e w6 ⟨rfl, kp6⟩
        go_wp2_with fail
        go_ret
        exact ⟨rfl, kp'.tr kp6⟩
end Go.Proofs.Ytanodmjolphpfaa
