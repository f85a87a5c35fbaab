/-
  Forward: what the document's Read tells.
-/
import Derived.Test.YtgdiffabnalidaaForI
import Derived.Test.YtgdiffabnalidaaForH
import Derived.ChangeKeysEq
namespace Go.Proofs.Ytgdiffabnalidaa
open Go.RowKit
set_option linter.unusedSimpArgs false
set_option linter.unusedVariables false

theorem size_u8F (w : World) : (sizeOf (Try.prog.elem 24)).run Try.prog w = .ok 1 w := by
  obtain ⟨i, h1, h2, h3, h4⟩ := info_parts infoU8
  have := run_sizeOf (P := Try.prog) w h1
  have e : Try.prog.elem 24 = 5 := by kernel_rfl
  have e2 : Try.prog.cellsOf 5 = 1 := by kernel_rfl
  rw [e2] at this; rw [e]; exact this
/-- A piece up to the end. -/
theorem tail_rdF (w : World) (ad : Option Addr) (cap n a : Nat) (zs : List Int) (hn : n = zs.length) (ha : a ≤ n) (hr : Rd w .u8 ad cap zs) :
    ∃ ad' cap', (∀ wx : World, (Instr.slice 24 (.slice ad n cap) (some (.int .i64 a)) none none).run Try.prog wx = .ok (.slice ad' (n - a) cap') wx) ∧ Rd w .u8 ad' cap' (sub zs a n) := by
  subst hn
  refine ⟨if cap = a then ad else ad.map (·.add a), cap - a, fun wx => ?_, ?_⟩
  · rw [run_slice_l (P := Try.prog) (w := wx) 24 ad zs.length cap (by kernel_rfl) .i64 (a : Int) (by omega) (by omega), size_u8F]
    simp [Result.andThen, sliced]
  · by_cases hc : cap = a
    · rw [if_pos hc]
      have := hr.1
      rw [show cap - a = 0 by omega]
      exact Rd.slice_end (by omega)
    · rw [if_neg hc]
      exact hr.slice ha (Nat.le_refl _)
/-- A piece up to b. -/
theorem head_rdF (w : World) (ad : Option Addr) (cap n b : Nat) (zs : List Int) (hn : n = zs.length) (hb : b ≤ n) (hr : Rd w .u8 ad cap zs) :
    ∃ ad' cap', (∀ wx : World, (Instr.slice 24 (.slice ad n cap) none (some (.int .i64 b)) none).run Try.prog wx = .ok (.slice ad' b cap') wx) ∧ Rd w .u8 ad' cap' (sub zs 0 b) := by
  subst hn
  have := hr.1
  refine ⟨if cap = 0 then ad else ad.map (·.add 0), cap - 0, fun wx => ?_, ?_⟩
  · rw [run_slice_h (P := Try.prog) (w := wx) 24 ad zs.length cap (by kernel_rfl) .i64 (b : Int) (by omega) (by omega), size_u8F]
    simp [Result.andThen, sliced]
  · by_cases hc : cap = 0
    · rw [if_pos hc, hc]
      exact Rd.slice_end (by omega)
    · rw [if_neg hc]
      exact hr.slice (Nat.zero_le _) hb

/-- What is read of the heads. -/
theorem fr_heads (bs : List Int) (nn a1 mm a2 wd a3 : Nat) (b1 b2 b3 : Bool) (hnn : nn = rdN bs 0 false 4) (ha1 : a1 = rdA bs 0 false 4) (hb1 : b1 = rdB bs 0 false 4) (hmm : mm = rdN bs a1 b1 4) (ha2 : a2 = rdA bs a1 b1 4)
    (hb2 : b2 = rdB bs a1 b1 4) (hwd : wd = rdN bs a2 b2 1) (ha3 : a3 = rdA bs a2 b2 1) (hb3 : b3 = rdB bs a2 b2 1) :
    (bs.length < 9 ∧ b3 = true) ∨ (9 ≤ bs.length ∧ nn = frN bs ∧ mm = frM bs ∧ wd = frW bs ∧ a3 = 9 ∧ b3 = false) := by
  rcases Nat.lt_or_ge bs.length 9 with h9 | h9
  · refine .inl ⟨h9, ?_⟩
    rw [hb3]
    refine (rd_no (bs := bs) (a := a2) (n := 1) (b := b2) ?_).2.2
    rintro ⟨e2, e3⟩
    have e4 : a2 = 8 := by
      by_cases h4 : b1 = false ∧ a1 + 4 ≤ bs.length
      · have : a1 = 4 := by
          by_cases h5 : 0 + 4 ≤ bs.length
          · rw [ha1, (rd_yes h5).2.1]
          · have := (rd_no (bs := bs) (a := 0) (n := 4) (b := false) (fun h => h5 h.2)).2.2
            rw [hb1, this] at h4; simp at h4
        obtain ⟨rfl, h5⟩ := h4
        rw [ha2, (rd_yes h5).2.1, this]
      · have := (rd_no (bs := bs) (a := a1) (n := 4) (b := b1) h4).2.2
        rw [hb2, this] at e2; simp at e2
    omega
  · obtain ⟨y1, y2, y3⟩ := rd_yes (bs := bs) (a := 0) (n := 4) (by omega)
    rw [y2] at ha1; rw [y3] at hb1; rw [y1] at hnn
    subst ha1; subst hb1
    obtain ⟨y4, y5, y6⟩ := rd_yes (bs := bs) (a := 4) (n := 4) (by omega)
    simp only [Nat.zero_add] at hmm ha2 hb2
    rw [y5] at ha2; rw [y6] at hb2; rw [y4] at hmm
    subst ha2; subst hb2
    obtain ⟨y7, y8, y9⟩ := rd_yes (bs := bs) (a := 8) (n := 1) (by omega)
    simp only [Nat.reduceAdd] at hwd ha3 hb3
    rw [y8] at ha3; rw [y9] at hb3; rw [y7] at hwd
    exact .inr ⟨h9, hnn, hmm, hwd, ha3, hb3⟩

/-- What the document's Read comes to. -/
def R12Post (w : World) (bs : List Int) (rows many : Int) (e : Ending) (w' : World) : Prop :=
  ∃ ad cap s, e = .returned (.tuple #[.slice ad s.length cap, .int .i64 (frE bs rows many)]) ∧ Kp [] w w' ∧ Own w' w.heap.size 3 .i64 ad cap s ∧ s = if frE bs rows many = 0 then frL bs else []
theorem r12_fail {bs : List Int} {rows many c : Int} {w w' : World} (hE : frE bs rows many = c) (h0 : c ≠ 0) (k : Kp [] w w') : R12Post w bs rows many (.returned (.tuple #[.slice none 0 0, .int .i64 c])) w' :=
  ⟨none, 0, [], by rw [hE]; rfl, k, Own.nil _ _ _ _, by rw [hE, if_neg h0]⟩

set_option maxRecDepth 100000 in
set_option maxHeartbeats 2000000 in
theorem r12Read_any (ad : Option Addr) (cap n : Nat) (bs : List Int) (hn : n = bs.length) (rows many : Int) (w : World) (hr : Rd w .u8 ad cap bs) (hb : Bytes8 bs) (hl : n ≤ 100000) (had : ∀ x, ad = some x → bs ≠ [] → x.block < w.heap.size) :
    Calls Try.prog 34 #[.slice ad n cap, .int .i64 rows, .int .i64 many] w (R12Post w bs rows many) := by
  have HN := Lib.hid hn
  have HR := Lib.hid hr
  have HB := Lib.hid hb
  have HA := Lib.hid had
  clear hn hr hb had
  have hp : Rdr01 (w.alloc (.cells #[.slice ad bs.length cap, .int .i64 (0 : Nat), .bool false] 74)) (fun x => x < w.heap.size + 1) w.heap.size bs 0 false :=
    ⟨ad, cap, heap_alloc_at rfl, HR.out.alloc _, fun x hx hne => by have := HA.out x hx hne; omega, Nat.zero_le _, by rw [← HN.out]; omega, by omega, fun x hx hne => by have := HA.out x hx hne; omega⟩
  have HP := Lib.hid hp
  rw [← HN.out] at HP
  clear hp
  obtain ⟨nn, hnn⟩ : ∃ x, x = rdN bs 0 false 4 := ⟨_, rfl⟩
  obtain ⟨a1, ha1⟩ : ∃ x, x = rdA bs 0 false 4 := ⟨_, rfl⟩
  obtain ⟨b1, hb1⟩ : ∃ x, x = rdB bs 0 false 4 := ⟨_, rfl⟩
  obtain ⟨mm, hmm⟩ : ∃ x, x = rdN bs a1 b1 4 := ⟨_, rfl⟩
  obtain ⟨a2, ha2⟩ : ∃ x, x = rdA bs a1 b1 4 := ⟨_, rfl⟩
  obtain ⟨b2, hb2⟩ : ∃ x, x = rdB bs a1 b1 4 := ⟨_, rfl⟩
  obtain ⟨wd, hwd⟩ : ∃ x, x = rdN bs a2 b2 1 := ⟨_, rfl⟩
  obtain ⟨a3, ha3⟩ : ∃ x, x = rdA bs a2 b2 1 := ⟨_, rfl⟩
  obtain ⟨b3, hb3⟩ : ∃ x, x = rdB bs a2 b2 1 := ⟨_, rfl⟩
  have HQ := Lib.hid (fr_heads bs nn a1 mm a2 wd a3 b1 b2 b3 hnn ha1 hb1 hmm ha2 hb2 hwd ha3 hb3)
  have l1 : nn < 4294967296 := by rw [hnn]; exact rdN_lt bs 0 false 4 HB.out
  have l2 : mm < 4294967296 := by rw [hmm]; exact rdN_lt bs a1 b1 4 HB.out
  have l3 : wd < 256 := by rw [hwd]; exact rdN_lt bs a2 b2 1 HB.out
  have q1 := r01number_any w.heap.size bs 0 false 4 _ HP.out HB.out (by omega)
  rw [← hnn, ← ha1, ← hb1] at q1
  have q2 := fun wx h => r01number_any (L := fun x => x < w.heap.size + 1) w.heap.size bs a1 b1 4 wx h HB.out (by omega)
  rw [← hmm, ← ha2, ← hb2] at q2
  have q3 := fun wx h => r01number_any (L := fun x => x < w.heap.size + 1) w.heap.size bs a2 b2 1 wx h HB.out (by omega)
  rw [← hwd, ← ha3, ← hb3] at q3
  have Q1 := Lib.hid q1
  have Q2 := Lib.hid q2
  have Q3 := Lib.hid q3
  have z1 : wrap64 (nn : Int) = (nn : Int) := by unfold wrap64; omega
  have z2 : wrap64 (mm : Int) = (mm : Int) := by unfold wrap64; omega
  have z3 : wrap64 (wd : Int) = (wd : Int) := by unfold wrap64; omega
  clear hnn ha1 hb1 hmm ha2 hb2 hwd ha3 hb3 q1 q2 q3
  go_enter Try.func34, Try.ntmps34
  go_wp2_with fail
  refine Q1.out.mono ?_
  rintro e w2 ⟨rfl, hp2, kp2⟩
  go_wp2_with fail
  refine (Q2.out w2 hp2).mono ?_
  rintro e w3 ⟨rfl, hp3, kp3⟩
  go_wp2_with fail
  refine (Q3.out w3 hp3).mono ?_
  rintro e w4 ⟨rfl, hp4, kp4⟩
  have hK4 : Kp [w.heap.size] (w.alloc (.cells #[.slice ad n cap, .int .i64 (0 : Nat), .bool false] 74)) w4 := (kp2.trans kp3 (U := [w.heap.size]) (by simp) (by simp)).trans kp4 (by simp) (by simp)
  have HK4 : Hid (Kp [] w w4) := Lib.hid (((Kp.refl [] w).alloc _).trans hK4 (by simp) (by simp))
  obtain ⟨ad2, cap2, g1, -⟩ := hp4
  obtain ⟨-, -, c2, -⟩ := rdr01_cells g1
  clear HP Q1 Q2 Q3 hp2 hp3 kp2 kp3 kp4 hK4 g1
  rcases HQ.out with ⟨h9, rfl⟩ | ⟨h9, e1, e2, e3, rfl, rfl⟩
  · have HE : Hid (frE bs rows many = 4) := Lib.hid (by unfold frE; rw [if_pos h9])
    go_wp2_with fail
    go_ret2
    exact r12_fail HE.out (by omega) HK4.out
  · have E1 := Lib.hid e1
    have E2 := Lib.hid e2
    have E3 := Lib.hid e3
    have H9 := Lib.hid h9
    clear e1 e2 e3 h9 HQ
    by_cases h3 : 16777216 < nn
    · have HE : Hid (frE bs rows many = 3) := Lib.hid (by unfold frE; rw [if_neg (by have := H9.out; omega), if_pos (by rw [← E1.out]; exact h3)])
      have h3' : (16777216 : Int) < (nn : Int) := by omega
      clear h3
      go_wp2_with fail
      go_ret2
      exact r12_fail HE.out (by omega) HK4.out
    have h3' : ¬ (16777216 : Int) < (nn : Int) := by omega
    have HNF : Hid (¬ frFit bs rows many → frE bs rows many = 5) := Lib.hid (fun hf => by unfold frE; rw [if_neg (by have := H9.out; omega), if_neg (by rw [← E1.out]; exact h3), if_pos hf])
    by_cases x1 : ((nn : Int) != rows) = true
    · have HE : Hid (frE bs rows many = 5) := Lib.hid (HNF.out (fun hf => by rw [bne_iff_ne] at x1; rw [E1.out] at x1; exact x1 hf.1))
      go_wp2_with fail
      go_ret2
      exact r12_fail HE.out (by omega) HK4.out
    obtain rfl : (nn : Int) = rows := by simpa using x1
    have y1 : ((nn : Int) != (nn : Int)) = false := by simp
    clear x1
    by_cases x2 : ((mm : Int) != many) = true
    · have HE : Hid (frE bs nn many = 5) := Lib.hid (HNF.out (fun hf => by rw [bne_iff_ne] at x2; rw [E2.out] at x2; exact x2 hf.2.1))
      go_wp2_with fail
      go_ret2
      exact r12_fail HE.out (by omega) HK4.out
    obtain rfl : (mm : Int) = many := by simpa using x2
    have y2 : ((mm : Int) != (mm : Int)) = false := by simp
    clear x2
    by_cases x3 : mayF (nn : Int) (mm : Int)
    case neg =>
      have HE : Hid (frE bs nn mm = 5) := Lib.hid (HNF.out (fun hf => by rw [E1.out, E2.out] at x3; exact x3 hf.2.2.1))
      have z3 := decide_eq_false x3
      clear x3
      go_wp2_with first
        | (go_at_call 44; refine (r12May_any _ _ _).mono ?_; rw [z3]; rintro e w7 ⟨rfl, h7⟩; subst w7)
      go_ret2
      exact r12_fail HE.out (by omega) HK4.out
    have X3 := Lib.hid x3
    have z3 := decide_eq_true x3
    have hm : mm ≤ 16777216 := by rcases x3 with h | h <;> omega
    clear x3
    obtain ⟨wd', hwd'⟩ : ∃ x, x = wdF mm := ⟨_, rfl⟩
    have qw := fun wx => r12Width_any mm wx hm
    have hwr := wdF_rng mm hm
    rw [← hwd'] at qw hwr
    have QW := Lib.hid qw
    have HWD := Lib.hid hwd'
    clear qw hwd'
    by_cases x4 : ((wd : Int) != (wd' : Int)) = true
    · have HE : Hid (frE bs nn mm = 5) := Lib.hid (HNF.out (fun hf => by rw [bne_iff_ne] at x4; have := hf.2.2.2; rw [← E3.out, ← E2.out, ← HWD.out] at this; exact x4 (by rw [this])))
      go_wp2_with first
        | (go_at_call 44; refine (r12May_any _ _ _).mono ?_; rw [z3]; rintro e w7 ⟨rfl, h7⟩; subst w7)
        | (go_at_call 28; refine (QW.out _).mono ?_; rintro e w7 ⟨rfl, h7⟩; subst w7)
      go_ret2
      exact r12_fail HE.out (by omega) HK4.out
    obtain rfl : wd = wd' := by have : (wd : Int) = (wd' : Int) := by simpa using x4
                                omega
    have y4 : ((wd : Int) != (wd : Int)) = false := by simp
    clear x4
    have HF : Hid (frFit bs nn mm) := Lib.hid ⟨by rw [E1.out], by rw [E2.out], by rw [← E1.out, ← E2.out]; exact X3.out, by rw [← E3.out, ← E2.out]; exact HWD.out⟩
    obtain ⟨sz, hsz⟩ : ∃ x, x = sizeN nn wd := ⟨_, rfl⟩
    have q4 : ∀ wx, Calls Try.prog 16 #[.int .i64 (nn : Int), .int .i64 (wd : Int)] wx fun e w' => e = .returned (.int .i64 (sz : Int)) ∧ wx = w' := fun wx => by
      rw [hsz]; exact r02size_yes nn wd wx ⟨by omega, by omega, by omega, by omega⟩
    have HSZ := Lib.hid hsz
    have Q4 := Lib.hid q4
    obtain ⟨lf, hlf⟩ : ∃ x, x = bs.length - 9 := ⟨_, rfl⟩
    have hnlf : n = lf + 9 := by rw [HN.out, hlf]; have := H9.out; omega
    have HLF := Lib.hid hlf
    have e9 : IntKind.i64.wrap ((n : Int) - 9) = (lf : Int) := by rw [hnlf, IntWalk.i64_in _ (by omega)]; omega
    have e9' : (n : Int) - 9 = (lf : Int) := by omega
    clear q4 hsz hlf hnlf
    go_wp2_with first
      | (go_at_call 44; refine (r12May_any _ _ _).mono ?_; rw [z3]; rintro e w7 ⟨rfl, h7⟩; subst w7)
      | (go_at_call 28; refine (QW.out _).mono ?_; rintro e w7 ⟨rfl, h7⟩; subst w7)
    refine (Q4.out _).mono ?_
    rintro e w6 ⟨rfl, rfl⟩
    clear y1 y2 y4 z3 z1 z2 QW Q4 c2
    by_cases x5 : (lf : Int) < (sz : Int)
    · have HE : Hid (frE bs nn mm = 4) := Lib.hid (by unfold frE; rw [if_neg (by have := H9.out; omega), if_neg (by rw [← E1.out]; exact h3), if_neg (by simpa using HF.out), if_pos (by rw [← HLF.out, ← E1.out, ← E3.out, ← HSZ.out]; omega)])
      go_wp2_with fail
      go_ret2
      exact r12_fail HE.out (by omega) HK4.out
    have HU5 : Hid (¬ unpE (frB bs) nn wd = 0 → frE bs nn mm = 5) := Lib.hid (fun hu => by
      unfold frE; rw [if_neg (by have := H9.out; omega), if_neg (by rw [← E1.out]; exact h3), if_neg (by simpa using HF.out), if_neg (by rw [← HLF.out, ← E1.out, ← E3.out, ← HSZ.out]; omega), if_pos (by rw [← E1.out, ← E3.out]; exact hu)])
    have HU0 : Hid (unpE (frB bs) nn wd = 0 → frE bs nn mm = if frIds bs then 0 else 5) := Lib.hid (fun hu => by
      unfold frE; rw [if_neg (by have := H9.out; omega), if_neg (by rw [← E1.out]; exact h3), if_neg (by simpa using HF.out), if_neg (by rw [← HLF.out, ← E1.out, ← E3.out, ← HSZ.out]; omega), if_neg (by rw [← E1.out, ← E3.out]; simpa using hu)])
    obtain ⟨adt, capt, hsl, hrt⟩ := tail_rdF w4 ad cap n 9 bs HN.out (by have := H9.out; have := HN.out; omega) (HR.out.keep0 HK4.out)
    rw [show sub bs 9 n = frB bs by rw [HN.out]; rfl] at hrt
    obtain ⟨ue, hue⟩ : ∃ u, u = unpE (frB bs) (nn : Int) (wd : Int) := ⟨_, rfl⟩
    have hup := r02unpack_any adt capt (n - 9) (frB bs) (by rw [frB_length, HN.out]) (nn : Int) (wd : Int) w4 hrt (HB.out.sub 9 bs.length) (by omega)
    unfold UnpPost at hup
    rw [← hue] at HU5 HU0 hup
    have HUP := Lib.hid hup
    have HUE := Lib.hid hue
    have hsl' : ∀ wx : World, (Instr.slice 24 (.slice ad n cap) (some (.int .i64 9)) none none).run Try.prog wx = .ok (.slice adt (n - 9) capt) wx := hsl
    clear hup hue hrt hsl
    go_wp2_with fail
    refine HUP.out.mono ?_
    rintro e w9 ⟨ad9, cap9, rfl, ho9, kp9⟩
    have K9 := Lib.hid (HK4.out.tr kp9)
    have HO9 := Lib.hid ho9
    clear HUP ho9 kp9 hsl'
    by_cases hu0 : (ue != 0) = true
    · have HE : Hid (frE bs nn mm = 5) := Lib.hid (HU5.out (by simpa using hu0))
      generalize unpL (frB bs) (nn : Int) (wd : Int) = ul at *
      go_wp2_with fail
      go_ret2
      exact r12_fail HE.out (by omega) K9.out
    obtain rfl : ue = 0 := by simpa using hu0
    have hu1 : ((0 : Int) != 0) = false := rfl
    have HU1 := Lib.hid (HU0.out rfl)
    have hul : unpL (frB bs) (nn : Int) (wd : Int) = frL bs := by
      unfold unpL frL; rw [if_pos HUE.out.symm]; simp only [Int.toNat_natCast]; rw [← E1.out, ← E3.out]
    rw [hul] at HO9 ⊢
    obtain ⟨l, hl'⟩ : ∃ l, l = frL bs := ⟨_, rfl⟩
    rw [← hl'] at HO9 ⊢
    have hll : l.length = nn := by rw [hl', frL_length, ← E1.out]
    rw [hll]
    have HLL := Lib.hid hll
    have HLD := Lib.hid hl'
    clear hu0 HU0 HU5 hul hl' hll
    have hs9 := K9.out.size
    go_wp2_with fail
    go_loopw [14, 15] (fun vo vi wr => ∃ (k : Nat) (ado : Option Addr) (capo : Nat), k ≤ nn ∧ vi = .int .i64 k ∧ vo = .slice ado k capo ∧ Hid (∀ i, i < k → nth l i < (mm : Int)) ∧ Hid (Own wr w9.heap.size 3 .i64 ado capo (l.take k)) ∧ Hid (Kp [] w9 wr)) (fun _ vi _ => nn - (intOf vi).toNat)
    case atStart => exact ⟨0, none, 0, Nat.zero_le _, rfl, rfl, Lib.hid (fun i hi => by omega), Lib.hid (by rw [List.take_zero]; exact Own.nil _ _ _ _), Lib.hid (Kp.refl _ _)⟩
    case round =>
      obtain ⟨k, ado, capo, hk, rfl, rfl, HAL, HO, HK⟩ := hrel
      by_cases hlt : k < nn
      · obtain ⟨g9, rfl, c9, -, -, -⟩ := (HO9.out.keep0 HK.out).at' (i := k) (by rw [HLL.out]; exact hlt)
        have hv := nth_frL bs k (by rw [← E1.out]; exact hlt)
        have hv2 := idG_lt (frB bs) (frW bs) k (by rw [← E3.out]; exact hwr.2)
        rw [← HLD.out] at hv
        obtain ⟨v, hvv⟩ : ∃ v, v = idG (frB bs) (frW bs) k := ⟨_, rfl⟩
        rw [← hvv] at hv hv2
        rw [hv] at c9
        have HV := Lib.hid hv
        have HVV := Lib.hid hvv
        clear hv hvv
        by_cases hge : (mm : Int) ≤ (v : Int)
        · have HE : Hid (frE bs nn mm = 5) := Lib.hid (by
            rw [HU1.out, if_neg]
            intro hids
            have := hids k (by rw [← E1.out]; exact hlt)
            rw [← HVV.out, ← E2.out] at this; exact Nat.not_lt.2 (Int.ofNat_le.1 hge) this)
          go_wp2_with fail
          go_ret2
          exact r12_fail HE.out (by omega) (K9.out.tr HK.out)
        · have hsr := HK.out.size
          go_wp2_with (at_builtin; go_must (refine wpList_app rfl _ _ 39 39 rfl w9.heap.size 3 .i64 8 Try.underlying39 infoIntF ado capo k (l.take k) (by rw [List.length_take, HLL.out]; omega) [(v : Int)] _ 1 rfl rfl rfl (HO.out.alloc _) (src_one Try.underlying39 (World.cell?_alloc_at _ _ _ _ rfl)) (by omega) (by omega) (by simp; omega) ?_); intro ad2 cap2 w2 ho3 kp3 hob3 _)
          go_roundw
          case rel => exact ⟨k + 1, ad2, cap2, hlt, by go_num, rfl, Lib.hid (fun i hi => by
              by_cases hik : i = k
              · rw [hik, HV.out]; omega
              · exact HAL.out i (by omega)), Lib.hid (by rw [take_nth l k (by rw [HLL.out]; exact hlt), HV.out]; exact ho3), Lib.hid ((HK.out.alloc _).trans kp3 (by simp) (fun x hx => .inr (HO.out.ob_ge x hx).1))⟩
          case measure => simp [intOf]; omega
      · obtain rfl : k = nn := by omega
        have HE : Hid (frE bs k mm = 0) := Lib.hid (by
          rw [HU1.out, if_pos]
          intro i hi
          rw [← E1.out] at hi
          have := HAL.out i hi
          rw [HLD.out, nth_frL bs i (by rw [← E1.out]; exact hi)] at this
          rw [← E2.out]; omega)
        go_wp2_with fail
        go_ret2
        have hO := HO.out
        rw [List.take_of_length_le (by rw [HLL.out]; exact Nat.le_refl _)] at hO
        exact ⟨ado, capo, l, by rw [HE.out, HLL.out]; rfl, K9.out.tr HK.out, hO.mono (by omega), by rw [HE.out, if_pos rfl, HLD.out]⟩
end Go.Proofs.Ytgdiffabnalidaa
