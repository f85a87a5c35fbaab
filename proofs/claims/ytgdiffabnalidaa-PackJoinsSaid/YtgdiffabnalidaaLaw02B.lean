/-
  The walks of PackJoins, PackDoes and PackOnly.
-/
import Derived.Test.YtgdiffabnalidaaLaw02
namespace Go.Proofs.Ytgdiffabnalidaa
open Go.RowKit
set_option linter.unusedSimpArgs false
set_option linter.unusedVariables false

set_option maxRecDepth 100000 in
set_option maxHeartbeats 2000000 in
theorem joins02_walk (a0 a1 : Option Addr) (cap0 cap1 : Nat) (l m : List Int) (wd : Int) (w : World) (r0 : Rd w .u64 a0 cap0 l) (r1 : Rd w .u64 a1 cap1 m) (u0 : U64s l) (u1 : U64s m) :
    Calls Try.prog 6 #[.slice a0 l.length cap0, .slice a1 m.length cap1, .int .i64 wd] w fun e w' => e = .returned (.bool true) ∧ Kp [] w w' := by
  obtain ⟨nl, hnl⟩ : ∃ nl, nl = l.length := ⟨_, rfl⟩
  obtain ⟨nm, hnm⟩ : ∃ nm, nm = m.length := ⟨_, rfl⟩
  rw [← hnl, ← hnm]
  have HL := Lib.hid hnl
  have HM := Lib.hid hnm
  have R0 := Lib.hid r0
  have R1 := Lib.hid r1
  have U0 := Lib.hid u0
  have U1 := Lib.hid u1
  clear hnl hnm r0 r1 u0 u1
  by_cases h1 : 200 < nl
  · go_enter Try.func6, Try.ntmps6
    go_wp2_with (go_at_call 11; refine (known02 _).mono ?_; rintro e w' ⟨rfl, kp⟩)
    go_ret
    exact ⟨rfl, kp⟩
  by_cases h2 : 200 < nm
  · go_enter Try.func6, Try.ntmps6
    go_wp2_with (go_at_call 11; refine (known02 _).mono ?_; rintro e w' ⟨rfl, kp⟩)
    go_ret
    exact ⟨rfl, kp⟩
  by_cases h3 : nl % 8 = 0
  case neg =>
    have h3' : ((nl : Int) % 8 != 0) = true := by rw [bne_iff_ne]; omega
    go_enter Try.func6, Try.ntmps6
    go_wp2_with (go_at_call 11; refine (known02 _).mono ?_; rintro e w' ⟨rfl, kp⟩)
    go_ret
    exact ⟨rfl, kp⟩
  have h3' : (nl : Int) % 8 = 0 := by omega
  have u2 : U64s (l ++ m) := fun z hz => (List.mem_append.1 hz).elim (U0.out z) (U1.out z)
  have hp0 := fun wx h => pack_all a0 cap0 nl wd l HL.out wx h U0.out (by omega)
  have hp1 := fun wx h => pack_all a1 cap1 nm wd m HM.out wx h U1.out (by omega)
  have hp2 := fun a2 cap2 wx h => pack_all a2 cap2 (nl + nm) wd (l ++ m) (by rw [List.length_append, HL.out, HM.out]) wx h u2 (by omega)
  have b0 := packL_length l wd (by have := HL.out; omega)
  have b1 := packL_length m wd (by have := HM.out; omega)
  have b2 := packL_length (l ++ m) wd (by rw [List.length_append]; have := HL.out; have := HM.out; omega)
  have hlaw := joins_law l m wd (by have := HL.out; omega) (by have := HM.out; omega) (by have := HL.out; omega)
  generalize packE l wd = e0 at *
  generalize packE m wd = e1 at *
  generalize packE (l ++ m) wd = e2 at *
  generalize packL l wd = p0 at *
  generalize packL m wd = p1 at *
  generalize packL (l ++ m) wd = p2 at *
  obtain ⟨n0, hn0⟩ : ∃ n0, n0 = p0.length := ⟨_, rfl⟩
  obtain ⟨n1, hn1⟩ : ∃ n1, n1 = p1.length := ⟨_, rfl⟩
  obtain ⟨n2, hn2⟩ : ∃ n2, n2 = p2.length := ⟨_, rfl⟩
  simp only [← hn0] at hp0 b0
  simp only [← hn1] at hp1 b1
  simp only [← hn2] at hp2 b2
  have HP0 := Lib.hid hp0
  have HP1 := Lib.hid hp1
  have HP2 := Lib.hid hp2
  have HN0 := Lib.hid hn0
  have HN1 := Lib.hid hn1
  have HN2 := Lib.hid hn2
  have HLAW := Lib.hid hlaw
  clear hp0 hp1 hp2 hn0 hn1 hn2 hlaw u2
  go_enter Try.func6, Try.ntmps6
  go_wp2_with fail
  refine (HP0.out w R0.out).mono ?_
  rintro e w1 ⟨ad0, c0, rfl, ho0, kp1⟩
  have HO0 := Lib.hid ho0
  clear ho0
  go_wp2_with fail
  refine (HP1.out w1 (R1.out.keep0 kp1)).mono ?_
  rintro e w2 ⟨ad1, c1, rfl, ho1, kp2⟩
  have HO1 := Lib.hid ho1
  have HO0' := Lib.hid (HO0.out.keep0 kp2)
  have kw2 := kp1.tr kp2
  have R02 := Lib.hid (R0.out.keep0 kw2)
  have R12 := Lib.hid (R1.out.keep0 kw2)
  have hz2 := kw2.size
  clear ho1 kp1 kp2 HO0
  go_wp2_with (first
    | (at_builtin; refine wpList_app rfl (.tmp 41) (.tmp 42) 22 22 rfl w.heap.size 31 .u64 8 Try.underlying22 infoU64 (some ⟨w2.heap.size, 0, none⟩) 0 0 [] rfl l _ nl HL.out rfl rfl (.inl ⟨rfl, rfl⟩) (by rw [HL.out]; exact src_rd (R02.out.alloc _) Try.underlying22) (by omega) (by omega) (by simp; omega) ?_; intro ad3 cap3 w3 ho3 kp3 hob3 _)
    | (at_builtin; refine wpList_app rfl (.tmp 43) (.tmp 44) 22 22 rfl w.heap.size 31 .u64 8 Try.underlying22 infoU64 ad3 cap3 nl ([] ++ l) (by rw [List.nil_append]; exact HL.out) m _ nm HM.out rfl rfl ho3 (by rw [HM.out]; exact src_rd ((R12.out.alloc _).keep0 (kp3 : Kp [] _ _)) Try.underlying22) (by omega) (by omega) (by have := kp3.size; simp at this; omega) ?_; intro ad4 cap4 w4 ho4 kp4 hob4 _))
  have k23 : Kp [] w2 w3 := ((Kp.refl [] w2).alloc _).trans kp3 (by simp) (by simp [ob])
  have k24 : Kp [] w2 w4 := k23.trans kp4 (by simp) (fun x hx => by
    rcases hob3 x hx with h | h
    · simp [ob] at h
    · rw [World.size_alloc] at h; exact .inr (by omega))
  rw [List.nil_append] at ho4
  have HO4 := Lib.hid ho4
  have HO04 := Lib.hid (HO0'.out.keep0 k24)
  have HO14 := Lib.hid (HO1.out.keep0 k24)
  have kw4 := kw2.tr k24
  clear ho3 ho4 kp3 kp4 hob3 hob4 k23 k24 kw2
  refine (HP2.out ad4 cap4 w4 HO4.out.rd).mono ?_
  rintro e w5 ⟨ad5, c5, rfl, ho5, kp5⟩
  have HO5 := Lib.hid ho5
  have HO05 := Lib.hid (HO04.out.keep0 kp5)
  have HO15 := Lib.hid (HO14.out.keep0 kp5)
  have kw5 := kw4.tr kp5
  clear ho5 kp5 kw4
  rcases HLAW.out with ⟨q0, q1, q2, q3⟩ | ⟨q0 | ⟨q0, q1⟩, q2⟩
  · subst q0; subst q1; subst q2
    have Q3 := Lib.hid q3
    have hcv0 := conv_str (P := Try.prog) w5 24 9 5 Try.underlying24 Try.underlying5 Try.underlying9 ad0 c0 n0 p0 HO05.out.rd HN0.out
    have hcv1 := conv_str (P := Try.prog) w5 24 9 5 Try.underlying24 Try.underlying5 Try.underlying9 ad1 c1 n1 p1 HO15.out.rd HN1.out
    have hcv2 := conv_str (P := Try.prog) w5 24 9 5 Try.underlying24 Try.underlying5 Try.underlying9 ad5 c5 n2 p2 HO5.out.rd HN2.out
    rw [Q3.out, ← str_app] at hcv2
    have hsz : ¬ (9223372036854775807 < (strOfNums p0).size + (strOfNums p1).size) := by rw [strOfNums_size, strOfNums_size, ← HN0.out, ← HN1.out]; omega
    clear q3
    go_wp2_with (go_at_call 11; refine (known02 _).mono ?_; rintro e w6 ⟨rfl, kp6⟩)
    go_ret
    exact ⟨rfl, kw5.tr kp6⟩
  · subst q0; subst q2
    go_wp2_with (go_at_call 11; refine (known02 _).mono ?_; rintro e w6 ⟨rfl, kp6⟩)
    go_ret
    exact ⟨rfl, kw5.tr kp6⟩
  · subst q0; subst q1; subst q2
    go_wp2_with (go_at_call 11; refine (known02 _).mono ?_; rintro e w6 ⟨rfl, kp6⟩)
    go_ret
    exact ⟨rfl, kw5.tr kp6⟩
end Go.Proofs.Ytgdiffabnalidaa
