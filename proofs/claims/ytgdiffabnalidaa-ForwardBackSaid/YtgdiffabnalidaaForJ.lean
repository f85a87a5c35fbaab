/-
  Forward: what Read tells.
-/
import Derived.Test.YtgdiffabnalidaaForI
import Derived.Test.YtgdiffabnalidaaForH
namespace Go.Proofs.Ytgdiffabnalidaa
open Go.RowKit Go.Shelf
attribute [local go_sem] Oper.semAt_some
set_option linter.unusedSimpArgs false
set_option linter.unusedVariables false

/-- What Read comes to. -/
def FRPost (w : World) (bs : List Int) (rows many : Int) (e : Ending) (w' : World) : Prop :=
  Kp [] w w' ∧ ∃ v, e = .returned (.tuple #[.pointer v, .int .i64 (frE bs rows many)]) ∧ (frE bs rows many = 0 → ∃ p, v = some ⟨p, 0, none⟩ ∧ FXh w' w.heap.size p (frL bs) (frM bs)) ∧ (frE bs rows many ≠ 0 → v = none)

theorem fr_fail {bs : List Int} {rows many c : Int} {w w' : World} (hE : frE bs rows many = c) (h0 : c ≠ 0) (k : Kp [] w w') : FRPost w bs rows many (.returned (.tuple #[.pointer none, .int .i64 c])) w' :=
  ⟨k, none, by rw [hE], by rw [hE]; exact fun h => absurd h h0, fun _ => rfl⟩
theorem Kp.putObj {S : List Nat} {a b : World} (h : Kp S a b) {D : Nat} {o : Obj} (hD : D ∈ S ∨ a.heap.size ≤ D) : Kp S a (b.putObj D o) :=
  h.trans (Kp.grown (grownBy_putObj' b D o)) (fun _ hx => .inl hx) (fun x hx => by simp at hx; subst hx; exact hD)
theorem fr_res (tmps : Array Value) (W : World) (v : Option Addr) (c : Int) (g6 g7 : Nat) (h6 : tmps.getD 6 undef = .pointer (some ⟨g6, 0, none⟩)) (h7 : tmps.getD 7 undef = .pointer (some ⟨g7, 0, none⟩))
    (c6 : W.cell? ⟨g6, 0, none⟩ = some (.pointer v)) (c7 : W.cell? ⟨g7, 0, none⟩ = some (.int .i64 c)) : (results Try.f33 tmps).run Try.prog W = .ok (.tuple #[.pointer v, .int .i64 c]) W := by
  have h6' : tmps[6]?.getD undef = .pointer (some ⟨g6, 0, none⟩) := by simpa using h6
  have h7' : tmps[7]?.getD undef = .pointer (some ⟨g7, 0, none⟩) := by simpa using h7
  simp [results, Try.f33, go_sem, h6', h7', c6, c7]
/-- A return: both results are stored, then told. -/
theorem fr_exit {tmps : Array Value} {w5 : World} {g6 g7 : Nat} {v0 u0 : Value} {v : Option Addr} {c : Int} {R : Ending → World → Prop} (hne : g6 ≠ g7) (b6 : Boxed w5 g6 40 v0) (b7 : Boxed w5 g7 25 u0)
    (h6 : tmps.getD 6 undef = .pointer (some ⟨g6, 0, none⟩)) (h7 : tmps.getD 7 undef = .pointer (some ⟨g7, 0, none⟩))
    (hR : R (.returned (.tuple #[.pointer v, .int .i64 c])) ((w5.setCell ⟨g6, 0, none⟩ (.pointer v)).setCell ⟨g7, 0, none⟩ (.int .i64 c))) :
    bodyPostM Fence.wide 5 Try.prog Try.f33 R .ret { tmps := tmps, defers := [] } ((w5.setCell ⟨g6, 0, none⟩ (.pointer v)).setCell ⟨g7, 0, none⟩ (.int .i64 c)) :=
  ⟨_, fr_res tmps _ v c g6 g7 h6 h7 ((b6.set _).other hne _).cell ((b7.other (Ne.symm hne) _).set _).cell, hR⟩

theorem fr_leave {tmps : Array Value} {W : World} {g6 g7 D : Nat} {v : Option Addr} {c : Int} {R : Ending → World → Prop} (hK : W.heap[D]? = some (.deferred (some []))) (b6 : Boxed W g6 40 (.pointer v)) (b7 : Boxed W g7 25 (.int .i64 c))
    (h6 : tmps.getD 6 undef = .pointer (some ⟨g6, 0, none⟩)) (h7 : tmps.getD 7 undef = .pointer (some ⟨g7, 0, none⟩))
    (hR : R (.returned (.tuple #[.pointer v, .int .i64 c])) (W.putObj D (.deferred none))) :
    bodyPostM Fence.wide 5 Try.prog Try.f33 R .ret { tmps := tmps, defers := [{ target := .collected D, args := #[] }] } W :=
  ⟨by simp, .inl ⟨_, _, rfl, run_takeDeferred hK, _, fr_res tmps _ v c g6 g7 h6 h7 (cell_kept b6.cell (grownBy_putObj' _ D (.deferred none)) (fun r e => by cases e; exact ⟨_, hK, rfl⟩)) (cell_kept b7.cell (grownBy_putObj' _ D (.deferred none)) (fun r e => by cases e; exact ⟨_, hK, rfl⟩)), hR⟩⟩

set_option maxRecDepth 100000 in
set_option maxHeartbeats 2000000 in
theorem fRead_any (ad : Option Addr) (cap n : Nat) (bs : List Int) (hn : n = bs.length) (rows many : Int) (w : World) (hr : Rd w .u8 ad cap bs) (hb : Bytes8 bs) (hl : n ≤ 100000) :
    Calls Try.prog 33 #[.slice ad n cap, .int .i64 rows, .int .i64 many] w (FRPost w bs rows many) := by
  have HN := Lib.hid hn
  have HR := Lib.hid hr
  have HB := Lib.hid hb
  clear hn hr hb
  refine (callsIn_wide (n := 5)).1 ?_
  refine callsIn_of_wp_marks Try.func33 rfl trivial ?_ rfl
  simp only [Try.ntmps33, List.size_toArray, List.length_cons, List.length_nil, Nat.reduceAdd, Nat.reduceSub, Array.replicate_succ, Array.replicate_zero, List.push_toArray, List.append_toArray, List.nil_append, List.cons_append]
  refine wpIn_wide.2 ?_
  go_upto_region 1 with (fail)
  have kp0 : Kp [] w ((w.alloc (.cells #[.pointer none] 40)).alloc (.cells #[.int .i64 0] 25)) := ((Kp.refl [] w).alloc _).alloc _
  have b6 := (Boxed.new w 40 (.pointer none)).alloc (.cells #[.int .i64 0] 25)
  have b7 := Boxed.new (w.alloc (.cells #[.pointer none] 40)) 25 (.int .i64 0)
  rw [World.size_alloc] at b7
  generalize (w.alloc (.cells #[.pointer none] 40)).alloc (.cells #[.int .i64 0] 25) = w0 at *
  go_wp2_with fail
  refine (cnew_any ad cap n bs HN.out w0 (HR.out.keep0 kp0) (by omega)).mono ?_
  rintro e w1 ⟨p, rfl, hp0, hp, kp1⟩
  obtain ⟨g1, hg1⟩ : ∃ g, g = w1.heap.size := ⟨_, rfl⟩
  rw [← hg1] at hp
  obtain ⟨nn, hnn⟩ : ∃ x, x = rdN bs 0 false 4 := ⟨_, rfl⟩
  obtain ⟨a1, ha1⟩ : ∃ x, x = rdA bs 0 false 4 := ⟨_, rfl⟩
  obtain ⟨b1, hb1⟩ : ∃ x, x = rdB bs 0 false 4 := ⟨_, rfl⟩
  obtain ⟨mm, hmm⟩ : ∃ x, x = rdN bs a1 b1 4 := ⟨_, rfl⟩
  obtain ⟨a2, ha2⟩ : ∃ x, x = rdA bs a1 b1 4 := ⟨_, rfl⟩
  obtain ⟨b2, hb2⟩ : ∃ x, x = rdB bs a1 b1 4 := ⟨_, rfl⟩
  obtain ⟨wd, hwd⟩ : ∃ x, x = rdN bs a2 b2 1 := ⟨_, rfl⟩
  obtain ⟨a3, ha3⟩ : ∃ x, x = rdA bs a2 b2 1 := ⟨_, rfl⟩
  obtain ⟨b3, hb3⟩ : ∃ x, x = rdB bs a2 b2 1 := ⟨_, rfl⟩
  have l1 : nn < 4294967296 := by rw [hnn]; exact rdN_lt bs 0 false 4 HB.out
  have l2 : mm < 4294967296 := by rw [hmm]; exact rdN_lt bs a1 b1 4 HB.out
  have l3 : wd < 256 := by rw [hwd]; exact rdN_lt bs a2 b2 1 HB.out
  have q1 := cu32_any p bs 0 false w1 hp HB.out
  rw [← hnn, ← ha1, ← hb1] at q1
  have q2 := fun wx h => cu32_any (L := g1) p bs a1 b1 wx h HB.out
  rw [← hmm, ← ha2, ← hb2] at q2
  have q3 := fun wx h => cu8_any (L := g1) p bs a2 b2 wx h HB.out
  rw [← hwd, ← ha3, ← hb3] at q3
  have HQ : Hid ((bs.length < 9 ∧ b3 = true) ∨ (9 ≤ bs.length ∧ nn = frN bs ∧ mm = frM bs ∧ wd = frW bs ∧ a3 = 9 ∧ b3 = false)) := Lib.hid (by
    rcases Nat.lt_or_ge bs.length 9 with h9 | h9
    · refine .inl ⟨h9, ?_⟩
      rw [hb3]
      refine (rd_no (bs := bs) (a := a2) (n := 1) (b := b2) ?_).2.2
      rintro ⟨e2, e3⟩
      have e4 : a2 = 8 := by
        by_cases h4 : b1 = false ∧ a1 + 4 ≤ bs.length
        · have : a1 = 4 := by
            by_cases h5 : 0 + 4 ≤ bs.length
            · rw [ha1, (rd_yes h5).2.1]
            · have := (rd_no (bs := bs) (a := 0) (n := 4) (b := false) (fun h => h5 h.2)).2.2
              rw [hb1, this] at h4; simp at h4
          obtain ⟨rfl, h5⟩ := h4
          rw [ha2, (rd_yes h5).2.1, this]
        · have := (rd_no (bs := bs) (a := a1) (n := 4) (b := b1) h4).2.2
          rw [hb2, this] at e2; simp at e2
      omega
    · obtain ⟨y1, y2, y3⟩ := rd_yes (bs := bs) (a := 0) (n := 4) (by omega)
      rw [y2] at ha1; rw [y3] at hb1; rw [y1] at hnn
      subst ha1; subst hb1
      obtain ⟨y4, y5, y6⟩ := rd_yes (bs := bs) (a := 4) (n := 4) (by omega)
      simp only [Nat.zero_add] at hmm ha2 hb2
      rw [y5] at ha2; rw [y6] at hb2; rw [y4] at hmm
      subst ha2; subst hb2
      obtain ⟨y7, y8, y9⟩ := rd_yes (bs := bs) (a := 8) (n := 1) (by omega)
      simp only [Nat.reduceAdd] at hwd ha3 hb3
      rw [y8] at ha3; rw [y9] at hb3; rw [y7] at hwd
      exact .inr ⟨h9, hnn, hmm, hwd, ha3, hb3⟩)
  have Q2 := Lib.hid q2
  have Q3 := Lib.hid q3
  obtain ⟨sz, hsz⟩ : ∃ x, x = sizeV (nn : Int) (wd : Int) := ⟨_, rfl⟩
  have q4 := fun wx => psize_all (nn : Int) (wd : Int) wx
  rw [← hsz] at q4
  have HSZ := Lib.hid hsz
  have Q4 := Lib.hid q4
  have HK0 := Lib.hid (kp0.tr kp1)
  have hs0 := b7.lt
  have b6 : Boxed w1 w.heap.size 40 (.pointer none) := kp1.get b6 (by simp)
  have b7 : Boxed w1 (w.heap.size + 1) 25 (.int .i64 0) := kp1.get b7 (by simp)
  have hs1 := b7.lt
  have hpw := kp0.size
  have HG1 : Hid (g1 ≤ w1.heap.size) := Lib.hid (by omega)
  have HPG : Hid (p < g1) := Lib.hid hp.lt
  have c0 := kp1.size
  have hs01 := kp1.size
  clear hnn ha1 hb1 hmm ha2 hb2 hwd ha3 hb3 q2 q3 q4 hsz hg1 kp0 kp1 hp c0
  go_wp2_with fail
  refine q1.mono ?_
  rintro e w2 ⟨rfl, hp2, kp2⟩
  clear q1
  go_wp2_with fail
  refine (Q2.out w2 hp2).mono ?_
  rintro e w3 ⟨rfl, hp3, kp3⟩
  go_wp2_with fail
  refine (Q3.out w3 hp3).mono ?_
  rintro e w4 ⟨rfl, hp4, kp4⟩
  have kp14 : Kp [p] w1 w4 := (kp2.trans kp3 (U := [p]) (by simp) (by simp)).trans kp4 (by simp) (by simp)
  have b6 : Boxed w4 w.heap.size 40 (.pointer none) := kp14.get b6 (by simp; omega)
  have b7 : Boxed w4 (w.heap.size + 1) 25 (.int .i64 0) := kp14.get b7 (by simp; omega)
  have HK4 := Lib.hid (show Kp [] w w4 from HK0.out.trans kp14 (by simp) (by intro x hx; simp at hx; omega))
  have hs4 := kp14.size
  clear hp2 hp3 kp2 kp3 kp4 kp14 HK0
  go_upto_region 3 with (fail)
  have bm := Boxed.new w4 3 (.int .i64 (mm : Int))
  have b6 := b6.alloc (.cells #[.int .i64 (mm : Int)] 3)
  have b7 := b7.alloc (.cells #[.int .i64 (mm : Int)] 3)
  have hp5 : Rdr (w4.alloc (.cells #[.int .i64 (mm : Int)] 3)) g1 p bs a3 b3 := hp4.keep ((Kp.refl [] w4).alloc _)
  have HK5 := Lib.hid (HK4.out.alloc (.cells #[.int .i64 (mm : Int)] 3))
  generalize w4.alloc (.cells #[.int .i64 (mm : Int)] 3) = w5 at *
  go_wp2_with fail
  refine (Q4.out w5).mono ?_
  rintro e w6 ⟨rfl, rfl⟩
  have HX : Hid (∀ wx, Kp [p] w5 wx → ∀ c, frE bs rows many = c → c ≠ 0 → ∀ tmps : Array Value, tmps.getD 6 undef = .pointer (some ⟨w.heap.size, 0, none⟩) → tmps.getD 7 undef = .pointer (some ⟨w.heap.size + 1, 0, none⟩) →
      bodyPostM Fence.wide 5 Try.prog Try.f33 (FRPost w bs rows many) .ret { tmps := tmps, defers := [] } ((wx.setCell ⟨w.heap.size, 0, none⟩ (.pointer none)).setCell ⟨w.heap.size + 1, 0, none⟩ (.int .i64 c))) :=
    Lib.hid (fun wx kx c hE h0 tmps h6 h7 => fr_exit (by omega) (kx.get b6 (by simp; omega)) (kx.get b7 (by simp; omega)) h6 h7 (fr_fail hE h0 (((HK5.out.trans kx (U := []) (by simp) (by intro x hx; simp at hx; omega)).setCell _ _ (.inr (Nat.le_refl _))).setCell _ _ (.inr (by simp)))))
  have c6 := b6.cell
  have c7 := b7.cell
  have f6 := b6.frozen
  have f7 := b7.frozen
  rcases HQ.out with ⟨h9, rfl⟩ | ⟨h9, e1, e2, e3, rfl, rfl⟩
  · have HE : Hid (frE bs rows many = 4) := Lib.hid (by unfold frE; rw [if_pos h9])
    go_wp2_with (go_at_call 52; refine (cbad_any p bs _ true _ hp5).mono ?_; rintro e w7 ⟨rfl, rfl⟩)
    exact HX.out w5 (Kp.refl _ _) _ HE.out (by omega) _ rfl rfl
  · have E1 := Lib.hid e1
    have E2 := Lib.hid e2
    have E3 := Lib.hid e3
    have H9 := Lib.hid h9
    have cm := bm.cell
    clear e1 e2 e3 h9 HQ
    by_cases h3 : 16777216 < nn
    · have HE : Hid (frE bs rows many = 3) := Lib.hid (by unfold frE; rw [if_neg (by have := H9.out; omega), if_pos (by rw [← E1.out]; exact h3)])
      have h3' : (16777216 : Int) < (nn : Int) := by omega
      clear h3
      go_wp2_with (go_at_call 52; refine (cbad_any p bs _ false _ hp5).mono ?_; rintro e w7 ⟨rfl, rfl⟩)
      exact HX.out w5 (Kp.refl _ _) _ HE.out (by omega) _ rfl rfl
    have h3' : ¬ (16777216 : Int) < (nn : Int) := by omega
    have HNF : Hid (¬ frFit bs rows many → frE bs rows many = 5) := Lib.hid (fun hf => by unfold frE; rw [if_neg (by have := H9.out; omega), if_neg (by rw [← E1.out]; exact h3), if_pos hf])
    by_cases x1 : ((nn : Int) != rows) = true
    · have HE : Hid (frE bs rows many = 5) := Lib.hid (HNF.out (fun hf => by rw [bne_iff_ne] at x1; rw [E1.out] at x1; exact x1 hf.1))
      go_wp2_with (go_at_call 52; refine (cbad_any p bs _ false _ hp5).mono ?_; rintro e w7 ⟨rfl, rfl⟩)
      exact HX.out w5 (Kp.refl _ _) _ HE.out (by omega) _ rfl rfl
    obtain rfl : (nn : Int) = rows := by simpa using x1
    have y1 : ((nn : Int) != (nn : Int)) = false := by simp
    clear x1
    by_cases x2 : ((mm : Int) != many) = true
    · have HE : Hid (frE bs nn many = 5) := Lib.hid (HNF.out (fun hf => by rw [bne_iff_ne] at x2; rw [E2.out] at x2; exact x2 hf.2.1))
      go_wp2_with (go_at_call 52; refine (cbad_any p bs _ false _ hp5).mono ?_; rintro e w7 ⟨rfl, rfl⟩)
      exact HX.out w5 (Kp.refl _ _) _ HE.out (by omega) _ rfl rfl
    obtain rfl : (mm : Int) = many := by simpa using x2
    have y2 : ((mm : Int) != (mm : Int)) = false := by simp
    clear x2
    by_cases x3 : mayF (nn : Int) (mm : Int)
    case neg =>
      have HE : Hid (frE bs nn mm = 5) := Lib.hid (HNF.out (fun hf => by rw [E1.out, E2.out] at x3; exact x3 hf.2.2.1))
      have z3 := decide_eq_false x3
      clear x3
      go_wp2_with first
        | (go_at_call 52; refine (cbad_any p bs _ false _ hp5).mono ?_; rintro e w7 ⟨rfl, rfl⟩)
        | (go_at_call 40; refine (fmay_any _ _ _).mono ?_; rw [z3]; rintro e w7 ⟨rfl, h7⟩; subst w7)
      exact HX.out w5 (Kp.refl _ _) _ HE.out (by omega) _ rfl rfl
    have X3 := Lib.hid x3
    have z3 := decide_eq_true x3
    have hm : mm ≤ 16777216 := by rcases x3 with h | h <;> omega
    clear x3
    obtain ⟨wd', hwd'⟩ : ∃ x, x = wdF mm := ⟨_, rfl⟩
    have qw := fun wx => fwidth_any mm wx hm
    have hwr := wdF_rng mm hm
    rw [← hwd'] at qw hwr
    have QW := Lib.hid qw
    have HWD := Lib.hid hwd'
    clear qw hwd'
    by_cases x4 : ((wd : Int) != (wd' : Int)) = true
    · have HE : Hid (frE bs nn mm = 5) := Lib.hid (HNF.out (fun hf => by rw [bne_iff_ne] at x4; have := hf.2.2.2; rw [← E3.out, ← E2.out, ← HWD.out] at this; exact x4 (by rw [this])))
      go_wp2_with first
        | (go_at_call 52; refine (cbad_any p bs _ false _ hp5).mono ?_; rintro e w7 ⟨rfl, rfl⟩)
        | (go_at_call 40; refine (fmay_any _ _ _).mono ?_; rw [z3]; rintro e w7 ⟨rfl, h7⟩; subst w7)
        | (go_at_call 41; refine (QW.out _).mono ?_; rintro e w7 ⟨rfl, h7⟩; subst w7)
      exact HX.out w5 (Kp.refl _ _) _ HE.out (by omega) _ rfl rfl
    obtain rfl : wd = wd' := by have : (wd : Int) = (wd' : Int) := by simpa using x4
                                omega
    have y4 : ((wd : Int) != (wd : Int)) = false := by simp
    clear x4
    have HF : Hid (frFit bs nn mm) := Lib.hid ⟨by rw [E1.out], by rw [E2.out], by rw [← E1.out, ← E2.out]; exact X3.out, by rw [← E3.out, ← E2.out]; exact HWD.out⟩
    have hsz : sz = sizeN nn wd := by rw [HSZ.out]; unfold sizeV; rw [if_pos ⟨by omega, by omega, by omega, by omega⟩]; simp
    have HSZ := Lib.hid hsz
    have hB2 : ∀ wx, Rdr wx g1 p bs 9 false → Calls Try.prog 53 #[.pointer (some ⟨p, 0, none⟩)] wx fun e w' => e = .returned (.int .i64 ((bs.length - 9 : Nat) : Int)) ∧ Kp [] wx w' := fun wx h => cleft_ok p bs 9 wx h
    have hBY : ∀ wx, Rdr wx g1 p bs 9 false → Calls Try.prog 54 #[.pointer (some ⟨p, 0, none⟩), .int .i64 ((bs.length - 9 : Nat) : Int)] wx fun e w' => ∃ ad cap, e = .returned (.slice ad (bs.length - 9) cap) ∧ Own w' wx.heap.size 5 .u8 ad cap (frB bs) ∧ Kp [p] wx w' := fun wx h => by
      refine (cbytes_any p bs 9 false ((bs.length - 9 : Nat) : Int) wx h).mono ?_
      have h9 := H9.out
      rw [(rdS_yes (bs := bs) (a := 9) (n := bs.length - 9) (by omega)).1, show sub bs 9 (9 + (bs.length - 9)) = frB bs by unfold frB; rw [show 9 + (bs.length - 9) = bs.length by omega], frB_length]
      rintro e w' ⟨ad, cap, rfl, ho, -, k⟩
      exact ⟨ad, cap, rfl, ho, k⟩
    obtain ⟨lf, hlf⟩ : ∃ x, x = bs.length - 9 := ⟨_, rfl⟩
    rw [← hlf] at hB2 hBY
    have HL2 := Lib.hid hB2
    have HBY := Lib.hid hBY
    have HLF := Lib.hid hlf
    have hlb : lf ≤ 100000 := by have := HN.out; omega
    have HP5 := Lib.hid hp5
    have HB6 := Lib.hid b6
    have HB7 := Lib.hid b7
    have HBM := Lib.hid bm
    clear hsz hB2 hBY hlf
    go_wp2_with first
      | (go_at_call 52; refine (cbad_any p bs _ false _ hp5).mono ?_; rintro e w7 ⟨rfl, rfl⟩)
      | (go_at_call 40; refine (fmay_any _ _ _).mono ?_; rw [z3]; rintro e w7 ⟨rfl, h7⟩; subst w7)
      | (go_at_call 41; refine (QW.out _).mono ?_; rintro e w7 ⟨rfl, h7⟩; subst w7)
    refine (HL2.out _ hp5).mono ?_
    rintro e w6 ⟨rfl, kp6⟩
    have K6 := Lib.hid kp6
    have c6 := kp6.cell c6 (by simp)
    have c7 := kp6.cell c7 (by simp)
    have f6 := (show Boxed w6 w.heap.size 40 (.pointer none) from kp6.get HB6.out (by simp)).frozen
    have f7 := (show Boxed w6 (w.heap.size + 1) 25 (.int .i64 0) from kp6.get HB7.out (by simp)).frozen
    clear hp5 y1 y2 y4 z3 cm b6 b7 bm kp6
    by_cases x5 : lf < sz
    · have HE : Hid (frE bs nn mm = 4) := Lib.hid (by unfold frE; rw [if_neg (by have := H9.out; omega), if_neg (by rw [← E1.out]; exact h3), if_neg (by simpa using HF.out), if_pos (by rw [← HLF.out, ← E1.out, ← E3.out, ← HSZ.out]; exact x5)])
      go_wp2_with fail
      exact HX.out _ (kp_more K6.out) _ HE.out (by omega) _ rfl rfl
    have HU5 : Hid (¬ unpE (frB bs) nn wd = 0 → frE bs nn mm = 5) := Lib.hid (fun hu => by
      unfold frE; rw [if_neg (by have := H9.out; omega), if_neg (by rw [← E1.out]; exact h3), if_neg (by simpa using HF.out), if_neg (by rw [← HLF.out, ← E1.out, ← E3.out, ← HSZ.out]; exact x5), if_pos (by rw [← E1.out, ← E3.out]; exact hu)])
    have HU0 : Hid (unpE (frB bs) nn wd = 0 → frE bs nn mm = if frIds bs then 0 else 5) := Lib.hid (fun hu => by
      unfold frE; rw [if_neg (by have := H9.out; omega), if_neg (by rw [← E1.out]; exact h3), if_neg (by simpa using HF.out), if_neg (by rw [← HLF.out, ← E1.out, ← E3.out, ← HSZ.out]; exact x5), if_neg (by rw [← E1.out, ← E3.out]; simpa using hu)])
    go_wp2_with fail
    refine (HL2.out _ (HP5.out.keep K6.out)).mono ?_
    rintro e w7 ⟨rfl, kp7⟩
    have K7 := Lib.hid (K6.out.tr kp7)
    have c6 := kp7.cell c6 (by simp)
    have c7 := kp7.cell c7 (by simp)
    have f6 := (show Boxed w7 w.heap.size 40 (.pointer none) from K7.out.get HB6.out (by simp)).frozen
    have f7 := (show Boxed w7 (w.heap.size + 1) 25 (.int .i64 0) from K7.out.get HB7.out (by simp)).frozen
    clear kp7
    by_cases x6 : sz < lf
    · have HE : Hid (frE bs nn mm = 5) := Lib.hid (HU5.out (fun hu => by
        unfold unpE at hu
        rw [if_neg (by simp only [Classical.not_not]; exact ⟨by omega, by omega, by omega, by omega⟩)] at hu
        simp only [Int.toNat_natCast] at hu
        have hq := HSZ.out
        rw [frB_length, ← HLF.out, if_neg (by omega), if_pos (.inl (by omega))] at hu
        omega))
      go_wp2_with fail
      exact HX.out _ (kp_more K7.out) _ HE.out (by omega) _ rfl rfl
    obtain rfl : lf = sz := by omega
    have HP7 := Lib.hid (HP5.out.keep K7.out)
    have HCM := Lib.hid (K7.out.cell HBM.out.cell (by simp))
    have hpb : p < w4.heap.size := by have := HPG.out; have := HG1.out; omega
    have hx56 : ¬ (lf : Int) > (lf : Int) := by omega
    have hx57 : ¬ (lf : Int) < (lf : Int) := by omega
    have hSO : ∀ x ∈ [p], x < w7.heap.size := by have := K7.out.size; have := HBM.out.lt; intro x hx; simp at hx; omega
    clear x5 x6 c6 c7 f6 f7
    go_upto_region 14 with (fail)
    refine wp_region_GS (by kernel_rfl) [p] [.val (.int .i64 (nn : Int)), .val (.int .i64 (mm : Int)), .val (.int .i64 (wd : Int)), .val (.pointer (some ⟨p, 0, none⟩)), .val (.int .i64 (lf : Int)), .own w7.heap.size hSO 5 .u8 lf (frB bs)] [[(9, none)], [(10, none)], [(11, none)], [(8, none)], [(12, none)], [(72, some 3), (73, some 4)]] [5] (fun m wx => m = 0 → Rdr wx g1 p bs 9 false) 6 rfl (by kernel_rfl) (by kernel_rfl) (by kernel_rfl) (by kernel_rfl) (by kernel_rfl) (by simp) (fun _ _ _ h k e => (h e).keep k) (fun _ => HP7.out) ?_ ?_
    · refine (ObG.free rfl ?o0 (ObG.free rfl ?o1 (ObG.free rfl ?o2 (ObG.free rfl ?o3 (ObG.free rfl ?o4 (ObG.chain 0 rfl ?o5 trivial))))))
      case o0 => intro aR wR mR hR hI; replace hR := hR.undrew; intro (h9 : aR.tmps[9]? = some (.int .i64 (nn : Int))); exact exec_val (c := .int .i64 (nn : Int)) (wanted_none rfl) (by go_simp) rfl
      case o1 => intro aR wR mR hR hI; replace hR := hR.undrew; intro (h10 : aR.tmps[10]? = some (.pointer (some ⟨w4.heap.size, 0, none⟩))); (have hc := hR.cell HCM.out (by simp <;> omega)); exact exec_val (c := .int .i64 (mm : Int)) (wanted_none rfl) (by go_simp) rfl
      case o2 => intro aR wR mR hR hI; replace hR := hR.undrew; intro (h11 : aR.tmps[11]? = some (.int .i64 (wd : Int))); exact exec_val (c := .int .i64 (wd : Int)) (wanted_none rfl) (by go_simp) rfl
      case o3 => intro aR wR mR hR hI; replace hR := hR.undrew; intro (h8 : aR.tmps[8]? = some (.pointer (some ⟨p, 0, none⟩))); exact exec_val (c := .pointer (some ⟨p, 0, none⟩)) (wanted_none rfl) (by go_simp) rfl
      case o4 => intro aR wR mR hR hI; replace hR := hR.undrew; intro (h12 : aR.tmps[12]? = some (.int .i64 (lf : Int))); exact exec_val (c := .int .i64 (lf : Int)) (wanted_none rfl) (by go_simp) rfl
      case o5 => intro aR wR hR hI; replace hR := hR.undrew; intro v72 h72 e72; replace e72 : v72 = .pointer (some ⟨p, 0, none⟩) := e72; subst e72; intro v73 h73 e73; replace e73 : v73 = .int .i64 (lf : Int) := e73; subst e73; refine exec_callS (wanted_none rfl) (by go_simp; exact ⟨rfl, rfl⟩) ?_; refine (HBY.out wR (hI rfl)).mono ?_; rintro e7 w8 ⟨ad, cap, rfl, ho8, kp8⟩; exact ⟨_, rfl, ⟨ad, cap, rfl, ho8.mono hR.size⟩, kp8, fun h => by cases h⟩
    · intro vs wR hR hI hV
      obtain ⟨e0, e1, e2, e3, e4, e5, -⟩ := hV
      replace e0 : vs 0 = .int .i64 (nn : Int) := e0
      replace e1 : vs 1 = .int .i64 (mm : Int) := e1
      replace e2 : vs 2 = .int .i64 (wd : Int) := e2
      replace e3 : vs 3 = .pointer (some ⟨p, 0, none⟩) := e3
      replace e4 : vs 4 = .int .i64 (lf : Int) := e4
      simp only [putAll, List.take_succ_cons, List.take_zero, List.drop_succ_cons, List.drop_zero, e0, e1, e2, e3, e4, Nat.reduceAdd, Nat.zero_add]
      clear e0 e1 e2 e3 e4
      try simp only [List.setIfInBounds_toArray, List.set_cons_succ, List.set_cons_zero]
      obtain ⟨ad8, cap8, ev, ho8⟩ := e5
      rw [ev]
      have K8 := Lib.hid (show Kp [p] w5 wR from (show Kp [p] w5 w7 from kp_more K7.out).trans (show Kp [p] w7 wR from hR) (U := [p]) (by simp) (by simp))
      have HO8 := Lib.hid ho8
      clear ho8 hI hR ev
      go_upto_region 15 with (fail)
      have hidx := heap_alloc_at (w := wR) (o := .cells #[.int .i64 (nn : Int), .int .i64 (mm : Int), .int .i64 (wd : Int), .slice ad8 lf cap8] 63) rfl
      have ho8 := HO8.out.alloc (.cells #[.int .i64 (nn : Int), .int .i64 (mm : Int), .int .i64 (wd : Int), .slice ad8 lf cap8] 63)
      have K9 := Lib.hid (K8.out.alloc (.cells #[.int .i64 (nn : Int), .int .i64 (mm : Int), .int .i64 (wd : Int), .slice ad8 lf cap8] 63))
      have hsR : w5.heap.size ≤ wR.heap.size := K8.out.size
      obtain ⟨x, hx⟩ : ∃ x, x = wR.heap.size := ⟨_, rfl⟩
      generalize hw8 : wR.alloc _ = w8 at *
      rw [← hx] at hidx hsR ⊢
      have c13 := cell_of_row w8 x 3 _ _ _ hidx
      have HIX := Lib.hid hidx
      have HO9 := Lib.hid ho8
      obtain ⟨ue, hue⟩ : ∃ u, u = unpE (frB bs) (nn : Int) (wd : Int) := ⟨_, rfl⟩
      have hup := unpack_any ad8 cap8 lf (frB bs) (by rw [frB_length]; exact HLF.out) (nn : Int) (wd : Int) w8 ho8.rd (HB.out.sub 9 bs.length) (by omega)
      unfold UnpPost at hup
      rw [← hue] at HU5 HU0 hup
      have HUP := Lib.hid hup
      have HUE := Lib.hid hue
      clear hw8 hx hidx ho8 hup hue HO8 K8 HBY HL2 HP5 HP7 HCM Q2 Q3 Q4 QW HNF
      go_wp2_with fail
      refine HUP.out.mono ?_
      rintro e w9 ⟨ad9, cap9, rfl, ho9, kp9⟩
      have K10 := Lib.hid (show Kp [p] w5 w9 from K9.out.trans kp9 (U := [p]) (by simp) (by simp))
      have c6 := (show Boxed w9 w.heap.size 40 (.pointer none) from K10.out.get HB6.out (by simp; omega)).cell
      have c7 := (show Boxed w9 (w.heap.size + 1) 25 (.int .i64 0) from K10.out.get HB7.out (by simp; omega)).cell
      have f6 := (show Boxed w9 w.heap.size 40 (.pointer none) from K10.out.get HB6.out (by simp; omega)).frozen
      have f7 := (show Boxed w9 (w.heap.size + 1) 25 (.int .i64 0) from K10.out.get HB7.out (by simp; omega)).frozen
      generalize unpL (frB bs) (nn : Int) (wd : Int) = ul at *
      have HI9 : Hid (LowIdx w9.heap.size w9 x nn mm wd ad8 cap8 (frB bs)) := Lib.hid ⟨⟨kp9.get (by rw [frB_length, ← HLF.out]; exact HIX.out) (by simp), HO9.out.rd.keep0 kp9⟩, by have := kp9.size; have := lt_of_heap HIX.out; omega, fun y hy hne => by
        have h0 : 0 < (frB bs).length := by cases hfb : frB bs with | nil => exact absurd hfb hne | cons y l => simp
        obtain ⟨g, h1, -, -, -, h2⟩ := HO9.out.at' h0
        cases h1; cases hy
        have := (HO9.out.ob_ge g h2).2
        have := kp9.size
        show g < _; omega⟩
      have HA8 : Hid (∀ y, ad8 = some y → frB bs ≠ [] → w7.heap.size ≤ y.block) := Lib.hid (fun y hy hne => by
        have h0 : 0 < (frB bs).length := by cases hfb : frB bs with | nil => exact absurd hfb hne | cons y l => simp
        obtain ⟨g, h1, -, -, h3, -⟩ := HO9.out.at' h0
        cases h1; cases hy; exact h3)
      clear c13 ho9 kp9 HUP HO9 HIX K9
      by_cases hu0 : (ue != 0) = true
      · have HE : Hid (frE bs nn mm = 5) := Lib.hid (HU5.out (by simpa using hu0))
        go_wp2_with fail
        exact HX.out _ K10.out _ HE.out (by omega) _ rfl rfl
      obtain rfl : ue = 0 := by simpa using hu0
      have hu1 : ((0 : Int) != 0) = false := rfl
      have HU1 := Lib.hid (HU0.out rfl)
      clear hu0 HU0 HU5
      go_wp2_with fail
      refine (fAll_any _ x).mono ?_
      rintro e w7' ⟨rfl, rfl⟩
      go_wp2_with fail
      have kpA : Kp [] w9 (w9.alloc (.cells #[.pointer (some ⟨x, 0, none⟩)] 40)) := (Kp.refl [] w9).alloc _
      have bX := Boxed.new w9 40 (.pointer (some ⟨x, 0, none⟩))
      have hXS : w9.heap.size < (w9.alloc (.cells #[.pointer (some ⟨x, 0, none⟩)] 40)).heap.size := bX.lt
      generalize w9.alloc (.cells #[.pointer (some ⟨x, 0, none⟩)] 40) = w10 at *
      have K11 := Lib.hid (show Kp [p] w5 w10 from K10.out.trans kpA (U := [p]) (by simp) (by simp))
      have b6 : Boxed w10 w.heap.size 40 (.pointer none) := K11.out.get HB6.out (by simp; omega)
      have b7 : Boxed w10 (w.heap.size + 1) 25 (.int .i64 0) := K11.out.get HB7.out (by simp; omega)
      have bm : Boxed w10 w4.heap.size 3 (.int .i64 (mm : Int)) := K11.out.get HBM.out (by simp; omega)
      have hB9 : Below w9.heap.size w9 w10 := kpA.below
      have hl6 : w.heap.size < w9.heap.size := by have := (show Boxed w9 w.heap.size 40 (.pointer none) from K10.out.get HB6.out (by simp; omega)).lt; omega
      have hl7 : w.heap.size + 1 < w9.heap.size := (show Boxed w9 (w.heap.size + 1) 25 (.int .i64 0) from K10.out.get HB7.out (by simp; omega)).lt
      have HW9 := Lib.hid (show Kp [] w w9 from HK5.out.trans K10.out (by simp) (by intro y hy; simp at hy; omega))
      have HFB := Lib.hid (show Bytes8 (frB bs) from HB.out.sub 9 bs.length)
      clear c6 c7 f6 f7 HX K10 kpA
      refine (wpIn_wide (n := 5)).1 ?_
      apply wpIn_rangeFunc_ownG (Kp := KB w9.heap.size w9.heap.size) (encs := fun y : Nat × Nat => #[Value.int .i64 (y.1 : Int), Value.int .i64 (y.2 : Int)]) rfl (by omega) (gf := 45) (lb := #[.pointer (some ⟨w9.heap.size, 0, none⟩)]) rfl trivial (enters_of Try.func45 (by kernel_rfl) rfl)
        (fAll_stops 4 (by omega) w9.heap.size w9.heap.size x nn mm wd ad8 cap8 (frB bs) HFB.out hwr.1 hwr.2 (by omega) _ bX.cell bX.lt (HI9.out.below hB9) hB9.size) KB.trans (kb_b hB9.size bX.lt) (Below.refl _ _) (fun _ => rfl)
        (fun (pre : List (Nat × Nat)) W => Boxed W w.heap.size 40 (.pointer none) ∧ Boxed W (w.heap.size + 1) 25 (.int .i64 0) ∧ Boxed W w4.heap.size 3 (.int .i64 (mm : Int)) ∧ (∀ y ∈ pre, y.2 < mm) ∧ Below w9.heap.size w9 W)
        (fun c (pre : List (Nat × Nat)) W => c = .ret ∧ (∃ y ∈ pre, mm ≤ y.2) ∧ Boxed W w.heap.size 40 (.pointer none) ∧ Boxed W (w.heap.size + 1) 25 (.int .i64 5) ∧ Below w.heap.size w W)
        (OwnFrom.and (Own.from (boxed_own _ _ _) _) (OwnFrom.and (Own.from (boxed_own _ _ _) _) (OwnFrom.and (Own.from (boxed_own _ _ _) _) (OwnFrom.and (ownFrom_pure _ _) (ownFrom_below (Nat.le_refl _) hB9.size)))))
        (fun _ => OwnFrom.and (ownFrom_pure _ _) (OwnFrom.and (ownFrom_pure _ _) (OwnFrom.and (Own.from (boxed_own _ _ _) _) (OwnFrom.and (Own.from (boxed_own _ _ _) _) (ownFrom_below (Nat.le_refl _) (by omega))))))
        ⟨b6, b7, bm, by simp, hB9⟩
      case hassign =>
        intro l y W K hK
        gi_wp2
        exact hK
      case hbody =>
        rintro l' pre ⟨u, v⟩ W ⟨d6, d7, dm, hpre, hB⟩ hlen
        have HP := Lib.hid hpre
        have e6 := d6.cell
        have e7 := d7.cell
        have em := dm.cell
        have f6 := d6.frozen
        have f7 := d7.frozen
        have D6 := Lib.hid d6
        have D7 := Lib.hid d7
        have DM := Lib.hid dm
        have HB' := Lib.hid hB
        have hsW := hB.size
        clear d6 d7 dm hB hpre
        by_cases hv : mm ≤ v
        · have hv' : (mm : Int) ≤ (v : Int) := by omega
          gi_wp2
          refine ⟨((KeepsOthers.setCell _ _ _).trans (KeepsOthers.setCell _ _ _)).from _, rfl, ⟨(u, v), by simp, hv⟩, (D6.out.set _).other (by omega) _, (D7.out.other (by omega) _).set _, ?_⟩
          exact ((HW9.out.tr (below_kp HB'.out)).setCell _ _ (.inr (Nat.le_refl _))).setCell _ _ (.inr (by simp)) |>.below
        · have hv' : ¬ (mm : Int) ≤ (v : Int) := by omega
          gi_wp2
          exact ⟨KeepsFrom.refl _ _, KB.refl _ _ _, D6.out, D7.out, DM.out, (by
            intro y1 y2 hy
            rcases List.mem_append.1 hy with h | h
            · exact HP.out (y1, y2) h
            · simp at h; omega), HB'.out⟩
      case hdone =>
        rintro D ys W hD rfl ⟨d6, d7, dm, hall, hB⟩ hK
        have hids : frIds bs := fun i hi => by
          have := hall (i, idG (frB bs) wd i) (by rw [E1.out]; exact List.mem_map.2 ⟨i, by simpa using hi, rfl⟩)
          rw [← E2.out, ← E3.out]; exact this
        have HE : Hid (frE bs nn mm = 0) := Lib.hid (by rw [HU1.out, if_pos hids])
        have HBW := Lib.hid hB
        have e6 := d6.cell
        have e7 := d7.cell
        have f6 := d6.frozen
        have f7 := d7.frozen
        have D6 := Lib.hid d6
        have D7 := Lib.hid d7
        have HDK := Lib.hid hK
        have HDW := Lib.hid hD
        clear d6 d7 dm hall hB hids hK hD
        have hsW := HBW.out.size
        go_wp2_with fail
        have hK' := (((KeepsOthers.setCell W ⟨w.heap.size, 0, none⟩ (.pointer (some ⟨x, 0, none⟩))).trans (KeepsOthers.setCell _ ⟨w.heap.size + 1, 0, none⟩ (.int .i64 0)))).same D _ HDK.out rfl
        have kz : Kp [] w ((W.setCell ⟨w.heap.size, 0, none⟩ (.pointer (some ⟨x, 0, none⟩))).setCell ⟨w.heap.size + 1, 0, none⟩ (.int .i64 0)) := ((HW9.out.tr (below_kp HBW.out)).setCell _ _ (.inr (Nat.le_refl _))).setCell _ _ (.inr (by simp))
        refine fr_leave hK' ((D6.out.set _).other (by omega) _) ((D7.out.other (by omega) _).set _) rfl rfl ?_
        have kq : Kp [w.heap.size, w.heap.size + 1] w9 (((W.setCell ⟨w.heap.size, 0, none⟩ (.pointer (some ⟨x, 0, none⟩))).setCell ⟨w.heap.size + 1, 0, none⟩ (.int .i64 0)).putObj D (.deferred none)) :=
          (((show Kp [w.heap.size, w.heap.size + 1] w9 W from kp_more (below_kp HBW.out)).setCell _ _ (.inl (by simp))).setCell _ _ (.inl (by simp))).putObj (.inr (by have := HDW.out; omega))
        have hsz := K7.out.size
        have hw1 := HB7.out.lt
        refine ⟨kz.putObj (.inr (by have := HDW.out; have := HW9.out.size; omega)), _, by rw [HE.out], fun _ => ⟨x, rfl, by omega, ?_⟩, fun h => absurd HE.out h⟩
        obtain ⟨⟨hc1, hc2⟩, hc3, hc4⟩ := HI9.out
        have hok := (fr_ok HB.out (by rw [← HN.out]; exact hl) HE.out).2.2
        refine ⟨ad8, cap8, ?_⟩
        rw [frL_length, hok.2, ← E1.out, ← E2.out, ← HWD.out]
        refine ⟨⟨⟨kq.get hc1 (by simp; omega), hc2.keepne kq (fun y hy hne hm => by have := HA8.out y hy hne; simp at hm; omega)⟩, ?_, fun y hy hne => ?_⟩, fun y hy hne => ?_⟩
        · have := kq.size; omega
        · have := hc4 y hy hne; have := kq.size; omega
        · have := HA8.out y hy hne; omega
      case hstop =>
        rintro D c pre W hD ⟨k, hk, rfl⟩ ⟨rfl, ⟨y, hy, hym⟩, d6, d7, hB⟩ hK
        have HE : Hid (frE bs nn mm = 5) := Lib.hid (by
          rw [HU1.out, if_neg]
          intro hids
          obtain ⟨i, hi, rfl⟩ := List.mem_map.1 hy
          have := hids i (by rw [← E1.out]; have := List.mem_range.1 hi; omega)
          rw [← E2.out, ← E3.out] at this
          exact absurd this (by simpa using hym))
        gi_wp2
        refine fr_leave hK d6 d7 rfl rfl ?_
        exact fr_fail HE.out (by omega) ((below_kp hB).putObj (.inr (by have := HW9.out.size; omega)))
end Go.Proofs.Ytgdiffabnalidaa
