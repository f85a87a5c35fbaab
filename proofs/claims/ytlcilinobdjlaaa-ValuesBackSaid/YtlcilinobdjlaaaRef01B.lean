/-
  What isinglassref01's Bytes tells.
-/
import Derived.Test.YtlcilinobdjlaaaUintR
import Derived.Test.YtlcilinobdjlaaaRegionB
namespace Go.Proofs.Ytlcilinobdjlaaa
open Go.RowKit
set_option linter.unusedSimpArgs false
set_option linter.unusedVariables false
variable {L : Nat → Prop}

set_option maxHeartbeats 800000 in
theorem r01bytes_no (p : Nat) (bs : List Int) (a : Nat) (b : Bool) (n : Int) (w : World) (h : Rdr01 w L p bs a b) (hn : ¬ (b = false ∧ 0 ≤ n ∧ a + n.toNat ≤ bs.length)) :
    Calls Try.prog 50 #[.pointer (some ⟨p, 0, none⟩), .int .i64 n] w fun e w' => e = .returned (.slice none 0 0) ∧ Rdr01 w' L p bs a true ∧ Kp [p] w w' := by
  have H := Lib.hid h
  have hle := h.le
  obtain ⟨ad, cap, h1, h2, h3, h4, h5⟩ := h
  obtain ⟨c0, c1, c2, f1, f2⟩ := rdr01_cells h1
  have kd : ∀ nq, Kp [] w (w.drewN nq) := fun nq => ⟨rfl, rfl, rfl, Nat.le_refl _, fun _ _ _ => rfl⟩
  clear h1 h2 h3
  cases b with
  | true =>
    clear hn
    go_enter Try.func50, Try.ntmps50
    go_wp2
    go_quiet (fail)
    go_wp2
    go_ret
    exact ⟨rfl, (H.out.keep (kd _)).spoil, (kd _).trans ((Kp.refl [p] _).setCell _ _ (by simp)) (by simp) (by simp)⟩
  | false =>
    have t1 : IntKind.i64.wrap ((bs.length : Int) - (a : Int)) = ((bs.length - a : Nat) : Int) := by rw [IntWalk.i64_in _ (by omega)]; omega
    by_cases h0 : n < 0
    · have hd : decide (n < 0) = true := by simp; omega
      clear hn
      go_enter Try.func50, Try.ntmps50
      go_wp2
      go_quiet (fail)
      go_wp2
      go_ret
      exact ⟨rfl, (H.out.keep (kd _)).spoil, (kd _).trans ((Kp.refl [p] _).setCell _ _ (by simp)) (by simp) (by simp)⟩
    · have hd : decide (n < 0) = false := by simp; omega
      have t2 : ((bs.length - a : Nat) : Int) < n := by simp at hn; omega
      clear hn
      go_enter Try.func50, Try.ntmps50
      go_wp2
      go_quiet (fail)
      go_wp2
      go_ret
      exact ⟨rfl, (H.out.keep (kd _)).spoil, (kd _).trans ((Kp.refl [p] _).setCell _ _ (by simp)) (by simp) (by simp)⟩

set_option maxHeartbeats 1000000 in
theorem r01bytes_yes (p : Nat) (bs : List Int) (a n : Nat) (w : World) (h : Rdr01 w L p bs a false) (hn : a + n ≤ bs.length) :
    Calls Try.prog 50 #[.pointer (some ⟨p, 0, none⟩), .int .i64 n] w fun e w' => ∃ ad cap, e = .returned (.slice ad n cap) ∧ Own w' w.heap.size 5 .u8 ad cap (sub bs a (a + n)) ∧ Rdr01 w' L p bs (a + n) false ∧ Kp [p] w w' := by
  have H := Lib.hid h
  have hle := h.le
  obtain ⟨ad, cap, h1, h2, h3, h4, h5⟩ := h
  obtain ⟨c0, c1, c2, f1, f2⟩ := rdr01_cells h1
  have HC := Lib.hid h1
  have HD := Lib.hid h2
  have H3 := Lib.hid h3
  have hcap := h2.1
  have hcap2 := h2.2.1
  have kd : ∀ nq, Kp [] w (w.drewN nq) := fun nq => ⟨rfl, rfl, rfl, Nat.le_refl _, fun _ _ _ => rfl⟩
  have t1 : IntKind.i64.wrap ((bs.length : Int) - (a : Int)) = ((bs.length - a : Nat) : Int) := by rw [IntWalk.i64_in _ (by omega)]; omega
  have hd : decide ((n : Int) < 0) = false := by simp
  have t2 : ¬ ((bs.length - a : Nat) : Int) < (n : Int) := by omega
  have hsl : (sub bs a (a + n)).length = n := by rw [sub_length _ _ _ hn]; omega
  have HSL := Lib.hid hsl
  obtain ⟨ed, hed⟩ : ∃ ed, ed = a + n := ⟨_, rfl⟩
  have HED := Lib.hid hed
  clear h1 h2 h3 hsl hed
  go_enter Try.func50, Try.ntmps50
  go_wp2
  go_quiet (fail)
  go_wp2
  obtain ⟨w3, hw3⟩ : ∃ w3, w3 = (w.drewN nq).setCell ⟨p, 1, none⟩ (.int .i64 ((a : Int) + (n : Int))) := ⟨_, rfl⟩
  rw [← hw3]
  have hst := (H.out.keep (kd nq)).step hn
  rw [← hw3] at hst
  have kp := (kd nq).trans ((Kp.refl [p] (w.drewN nq)).setCell ⟨p, 1, none⟩ (.int .i64 ((a : Int) + (n : Int))) (by simp)) (U := [p]) (by simp) (by simp)
  rw [← hw3] at kp
  have hn1 : w3.heap[p]? = some (.cells #[.slice ad bs.length cap, .int .i64 (ed : Int), .bool false] 49) := by
    rw [hw3, HED.out, Int.natCast_add]; exact heap_setCell_same (w.drewN nq) p 1 _ _ _ HC.out
  have hrd : Rd w3 .u8 ad cap bs := by
    rw [hw3]; exact (HD.out.keep0 (kd nq)).keepne ((Kp.refl [p] _).setCell _ _ (by simp)) (by simpa using H3.out)
  have HN1 := Lib.hid hn1
  have HRD := Lib.hid hrd
  have HST := Lib.hid hst
  have KP := Lib.hid kp
  clear hw3 hst kp hn1 hrd c0 c1 c2 f1 f2 kd t1 hd t2
  have g1 : a ≤ ed := by have := HED.out; omega
  have g2 : ed ≤ bs.length := by have := HED.out; omega
  have g3 : IntKind.i64.wrap ((ed : Int) - (n : Int)) = (a : Int) := by have := HED.out; rw [IntWalk.i64_in _ (by omega)]; omega
  have g4 : ¬ cap < ed := by omega
  refine wp_region_K (by kernel_rfl) [.bare, .val (.pointer (some ⟨p, 0, none⟩)), .val (.pointer (some ⟨p, 0, none⟩)), .val (.pointer (some ⟨p, 0, none⟩)), .val (.slice ad bs.length cap), .val (.pointer (some ⟨p, 0, none⟩)), .val (.pointer (some ⟨p, 0, none⟩)), .val (.pointer (some ⟨p, 1, none⟩)), .val (.int .i64 (ed : Int)), .val (.int .i64 (n : Int)), .val (.int .i64 (a : Int)), .val (.pointer (some ⟨p, 0, none⟩)), .val (.pointer (some ⟨p, 0, none⟩)), .val (.pointer (some ⟨p, 1, none⟩)), .val (.int .i64 (ed : Int)), .rd .u8 n (sub bs a (a + n)), .own w.heap.size 5 .u8 n (sub bs a (a + n)), .own w.heap.size 5 .u8 n (sub bs a (a + n))] [[], [(0, none)], [(40, some 1)], [(41, some 2)], [(42, some 3)], [(0, none)], [(44, some 5)], [(45, some 6)], [(46, some 7)], [(1, none)], [(47, some 8), (48, some 9)], [(0, none)], [(50, some 11)], [(51, some 12)], [(52, some 13)], [(43, some 4), (49, some 10), (53, some 14)], [(39, some 0), (54, some 15)], [(55, some 16)]] rfl (by kernel_rfl) ?_ ?_
  · refine ⟨?o0, ?o1, ?o2, ?o3, ?o4, ?o5, ?o6, ?o7, ?o8, ?o9, ?o10, ?o11, ?o12, ?o13, ?o14, ?o15, ?o16, ?o17, trivial⟩
    case o0 => intro aR wR hR; replace hR := hR.undrew; skip; exact exec_do (c := .slice (some ⟨wR.heap.size, 0, none⟩) 0 0) (w' := wR.alloc (.cells #[] 5)) (wanted_none rfl) (by go_simp) ⟨_, rfl⟩ ((Kp.refl [] _).alloc _)
    case o1 => intro aR wR hR; replace hR := hR.undrew; intro (h0 : aR.tmps[0]? = some (.pointer (some ⟨p, 0, none⟩))); exact exec_val (c := .pointer (some ⟨p, 0, none⟩)) (wanted_none rfl) (by go_simp) rfl
    case o2 => intro aR wR hR; replace hR := hR.undrew; intro v40 h40 e40; replace e40 : v40 = .pointer (some ⟨p, 0, none⟩) := e40; subst e40; exact exec_val (c := .pointer (some ⟨p, 0, none⟩)) (wanted_none rfl) (by go_simp) rfl
    case o3 => intro aR wR hR; replace hR := hR.undrew; intro v41 h41 e41; replace e41 : v41 = .pointer (some ⟨p, 0, none⟩) := e41; subst e41; exact exec_val (c := .pointer (some ⟨p, 0, none⟩)) (wanted_none rfl) (by go_simp) rfl
    case o4 => intro aR wR hR; replace hR := hR.undrew; intro v42 h42 e42; replace e42 : v42 = .pointer (some ⟨p, 0, none⟩) := e42; subst e42; (have hc := (rdr01_cells ((hR.get HN1.out (by simp)))).1); exact exec_val (c := .slice ad bs.length cap) (wanted_none rfl) (by go_simp) rfl
    case o5 => intro aR wR hR; replace hR := hR.undrew; intro (h0 : aR.tmps[0]? = some (.pointer (some ⟨p, 0, none⟩))); exact exec_val (c := .pointer (some ⟨p, 0, none⟩)) (wanted_none rfl) (by go_simp) rfl
    case o6 => intro aR wR hR; replace hR := hR.undrew; intro v44 h44 e44; replace e44 : v44 = .pointer (some ⟨p, 0, none⟩) := e44; subst e44; exact exec_val (c := .pointer (some ⟨p, 0, none⟩)) (wanted_none rfl) (by go_simp) rfl
    case o7 => intro aR wR hR; replace hR := hR.undrew; intro v45 h45 e45; replace e45 : v45 = .pointer (some ⟨p, 0, none⟩) := e45; subst e45; exact exec_val (c := .pointer (some ⟨p, 1, none⟩)) (wanted_none rfl) (by go_simp) rfl
    case o8 => intro aR wR hR; replace hR := hR.undrew; intro v46 h46 e46; replace e46 : v46 = .pointer (some ⟨p, 1, none⟩) := e46; subst e46; (have hc := (rdr01_cells ((hR.get HN1.out (by simp)))).2.1); exact exec_val (c := .int .i64 (ed : Int)) (wanted_none rfl) (by go_simp) rfl
    case o9 => intro aR wR hR; replace hR := hR.undrew; intro (h1 : aR.tmps[1]? = some (.int .i64 (n : Int))); exact exec_val (c := .int .i64 (n : Int)) (wanted_none rfl) (by go_simp) rfl
    case o10 => intro aR wR hR; replace hR := hR.undrew; intro v47 h47 e47; replace e47 : v47 = .int .i64 (ed : Int) := e47; subst e47; intro v48 h48 e48; replace e48 : v48 = .int .i64 (n : Int) := e48; subst e48; (skip); exact exec_val (c := .int .i64 (a : Int)) (wanted_none rfl) (by go_simp) rfl
    case o11 => intro aR wR hR; replace hR := hR.undrew; intro (h0 : aR.tmps[0]? = some (.pointer (some ⟨p, 0, none⟩))); exact exec_val (c := .pointer (some ⟨p, 0, none⟩)) (wanted_none rfl) (by go_simp) rfl
    case o12 => intro aR wR hR; replace hR := hR.undrew; intro v50 h50 e50; replace e50 : v50 = .pointer (some ⟨p, 0, none⟩) := e50; subst e50; exact exec_val (c := .pointer (some ⟨p, 0, none⟩)) (wanted_none rfl) (by go_simp) rfl
    case o13 => intro aR wR hR; replace hR := hR.undrew; intro v51 h51 e51; replace e51 : v51 = .pointer (some ⟨p, 0, none⟩) := e51; subst e51; exact exec_val (c := .pointer (some ⟨p, 1, none⟩)) (wanted_none rfl) (by go_simp) rfl
    case o14 => intro aR wR hR; replace hR := hR.undrew; intro v52 h52 e52; replace e52 : v52 = .pointer (some ⟨p, 1, none⟩) := e52; subst e52; (have hc := (rdr01_cells ((hR.get HN1.out (by simp)))).2.1); exact exec_val (c := .int .i64 (ed : Int)) (wanted_none rfl) (by go_simp) rfl
    case o15 => intro aR wR hR; replace hR := hR.undrew; intro v43 h43 e43; replace e43 : v43 = .slice ad bs.length cap := e43; subst e43; intro v49 h49 e49; replace e49 : v49 = .int .i64 (a : Int) := e49; subst e49; intro v53 h53 e53; replace e53 : v53 = .int .i64 (ed : Int) := e53; subst e53; exact dite (cap = a) (fun hcx => by obtain rfl : ed = a := (by omega); obtain rfl : n = 0 := (by have := HED.out; omega); exact exec_val (c := .slice ad 0 0) (wanted_none rfl) (by go_simp) ⟨ad, 0, rfl, Rd.slice_end rfl⟩) (fun hcx => by exact exec_val (c := .slice (Option.map (fun x => x.add a) ad) (ed - a) (cap - a)) (wanted_none rfl) (by go_simp) ⟨_, _, by rw [show ed - a = n from by have := HED.out; omega], (HRD.out.keep0 hR).slice (Nat.le_add_right a n) hn⟩)
    case o16 => intro aR wR hR; replace hR := hR.undrew; intro v39 h39 e39; intro v54 h54 e54; obtain ⟨ad1, rfl⟩ := e39; obtain ⟨ad2, cap2, rfl, hr2⟩ := e54; refine exec_app (wanted_none rfl) (.tmp 39) (.tmp 54) 22 22 rfl w.heap.size 5 .u8 1 Try.underlying22 infoU8 ad1 (sub bs a (a + n)) _ n HSL.out.symm (by go_simp) (by go_simp; rfl) (by have := src_rd hr2 Try.underlying22; rw [HSL.out] at this; exact this) (by omega) (by omega) (Nat.le_trans KP.out.size hR.size) ?_; intro ad3 cap3 w4 ho3; exact ⟨ad3, cap3, rfl, ho3⟩
    case o17 => intro aR wR hR; replace hR := hR.undrew; intro v55 h55 e55; exact exec_val (wanted_none rfl) (by go_simp) e55
  · intro vs wR hR hV
    obtain ⟨e0, e1, e2, e3, e4, e5, e6, e7, e8, e9, e10, e11, e12, e13, e14, e15, e16, e17, -⟩ := hV
    replace e1 : vs 1 = .pointer (some ⟨p, 0, none⟩) := e1
    replace e2 : vs 2 = .pointer (some ⟨p, 0, none⟩) := e2
    replace e3 : vs 3 = .pointer (some ⟨p, 0, none⟩) := e3
    replace e4 : vs 4 = .slice ad bs.length cap := e4
    replace e5 : vs 5 = .pointer (some ⟨p, 0, none⟩) := e5
    replace e6 : vs 6 = .pointer (some ⟨p, 0, none⟩) := e6
    replace e7 : vs 7 = .pointer (some ⟨p, 1, none⟩) := e7
    replace e8 : vs 8 = .int .i64 (ed : Int) := e8
    replace e9 : vs 9 = .int .i64 (n : Int) := e9
    replace e10 : vs 10 = .int .i64 (a : Int) := e10
    replace e11 : vs 11 = .pointer (some ⟨p, 0, none⟩) := e11
    replace e12 : vs 12 = .pointer (some ⟨p, 0, none⟩) := e12
    replace e13 : vs 13 = .pointer (some ⟨p, 1, none⟩) := e13
    replace e14 : vs 14 = .int .i64 (ed : Int) := e14
    simp only [putAll, e1, e2, e3, e4, e5, e6, e7, e8, e9, e10, e11, e12, e13, e14, Nat.reduceAdd, Nat.zero_add]
    clear e1 e2 e3 e4 e5 e6 e7 e8 e9 e10 e11 e12 e13 e14
    try simp only [List.setIfInBounds_toArray, List.set_cons_succ, List.set_cons_zero]
    simp only [Nat.reduceAdd, Nat.zero_add] at e17
    obtain ⟨ad7, cap7, hv, ho7⟩ := e17
    rw [hv]
    go_wp2
    go_ret
    exact ⟨ad7, cap7, rfl, ho7, HST.out.keep hR, KP.out.trans hR (by simp) (by simp)⟩

theorem r01bytes_any (p : Nat) (bs : List Int) (a : Nat) (b : Bool) (n : Int) (w : World) (h : Rdr01 w L p bs a b) :
    Calls Try.prog 50 #[.pointer (some ⟨p, 0, none⟩), .int .i64 n] w fun e w' => ∃ ad cap, e = .returned (.slice ad (rdS bs a b n).length cap) ∧ Own w' w.heap.size 5 .u8 ad cap (rdS bs a b n) ∧ Rdr01 w' L p bs (rdSA bs a b n) (rdSB bs a b n) ∧ Kp [p] w w' := by
  by_cases hc : b = false ∧ 0 ≤ n ∧ a + n.toNat ≤ bs.length
  · obtain ⟨rfl, h0, hc⟩ := hc
    obtain ⟨m, rfl⟩ := Int.eq_ofNat_of_zero_le h0
    rw [Int.toNat_natCast] at hc
    obtain ⟨q1, q2, q3⟩ := rdS_yes (bs := bs) (a := a) (n := m) hc
    have hl : (sub bs a (a + m)).length = m := by rw [sub_length _ _ _ hc]; omega
    rw [q1, q2, q3, hl]
    exact r01bytes_yes p bs a m w h hc
  · obtain ⟨q1, q2, q3⟩ := rdS_no hc
    rw [q1, q2, q3]
    exact (r01bytes_no p bs a b n w h hc).mono fun e w' ⟨h1, h2, h3⟩ => ⟨none, 0, h1, Own.nil _ _ _ _, h2, h3⟩
end Go.Proofs.Ytlcilinobdjlaaa
