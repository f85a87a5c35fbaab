/-
  The walk of CursorWrites.
-/
import Derived.Test.YtanodmjolphpfaaOnly01
import Derived.Test.YtanodmjolphpfaaRegionG
import Derived.Test.YtanodmjolphpfaaListL
import Derived.Outline
namespace Go.Proofs.Ytanodmjolphpfaa
open Go.RowKit
set_option linter.unusedSimpArgs false
set_option linter.unusedVariables false

theorem str_app (x y : List Int) : strOfNums x ++ strOfNums y = strOfNums (x ++ y) := by
  apply ByteArray.ext
  simp [strOfNums, ByteArray.data_append]
theorem run_str_add {P : Program} (w : World) (x y : List Int) (h : x.length + y.length ≤ 1000000) : (Op.stringOp .add (strOfNums x) (strOfNums y)).run P w = .ok (.string (strOfNums (x ++ y))) w := by
  rw [run_string_add_sum w _ _ (by rw [strOfNums_size, strOfNums_size]; omega), str_app]

/-- Of four the j-th. -/
def four {α : Type} (a b c d : α) (j : Nat) : α := match j with | 0 => a | 1 => b | 2 => c | _ => d

/-- How the loop of CursorWrites stands. -/
structure WInv (w wr : World) (b7 b8 : Nat) (ad : Nat → Option Addr) (cp : Nat → Nat) (zs : Nat → List Int) (lo : Nat → Nat) (adI : Option Addr) (capI : Nat) (bs : List Int) (i : Nat) : Prop where
  l : ∀ j, j < 4 → wr.cell? ⟨b7, j, none⟩ = some (.slice (ad j) (zs j).length (cp j))
  s : ∀ j, j < 4 → wr.cell? ⟨b8, j, none⟩ = some (.string (strOfNums (zs j)))
  own : ∀ j, i ≤ j → j < 4 → Own wr (lo j) 5 .u8 (ad j) (cp j) (zs j)
  inn : Own wr w.heap.size 5 .u8 adI capI bs
  kp : Kp [] w wr
/-- Where the memory of the four lies. -/
structure WLie (w : World) (b7 b8 : Nat) (lo : Nat → Nat) (adI : Option Addr) (capI : Nat) : Prop where
  w0 : w.heap.size ≤ lo 0
  up : ∀ i j, i ≤ j → lo i ≤ lo j
  b7 : lo 4 ≤ b7
  b8 : lo 4 ≤ b8
  inn : ∀ b, b ∈ ob adI capI → b < lo 0

theorem WInv.keep {w wr wr' : World} {b7 b8 : Nat} {ad : Nat → Option Addr} {cp : Nat → Nat} {zs : Nat → List Int} {lo : Nat → Nat} {adI : Option Addr} {capI : Nat} {bs : List Int} {i : Nat} (h : WInv w wr b7 b8 ad cp zs lo adI capI bs (i + 1)) (hl : WLie w b7 b8 lo adI capI)
    {S : List Nat} (k : Kp S wr wr') (hi : i < 4) (hS : ∀ x, x ∈ S → lo i ≤ x ∧ x < lo (i + 1)) : WInv w wr' b7 b8 ad cp zs lo adI capI bs (i + 1) := by
  have h04 := hl.up (i + 1) 4 (by omega)
  have h00 := hl.up 0 i (by omega)
  refine ⟨fun j hj => k.cell (h.l j hj) (fun hm => ?_), fun j hj => k.cell (h.s j hj) (fun hm => ?_), fun j hij hj => (h.own j hij hj).keep k (fun b hb hm => ?_), h.inn.keep k (fun b hb hm => ?_), h.kp.trans k (by simp) (fun x hx => .inr ?_)⟩
  · have := hS _ hm; have := hl.b7; simp only at *; omega
  · have := hS _ hm; have := hl.b8; simp only at *; omega
  · have := hS _ hm; have := ((h.own j hij hj).ob_ge b hb).1; have := hl.up (i + 1) j hij; omega
  · have := hS _ hm; have := hl.inn b hb; omega
  · have := hS _ hx; have := hl.w0; omega

theorem appU16_le (ad : Option Addr) (cap n N : Nat) (zs : List Int) (hn : n = zs.length) (w : World) (hr : Rd w .u8 ad cap zs) (hb : n ≤ 1099511627000) :
    Calls Try.prog 24 #[.slice ad n cap, .int .u16 ((N : Int) % 65536)] w fun e w' => ∃ ad' cap', e = .returned (.slice ad' (n + 2) cap') ∧ Own w' w.heap.size 5 .u8 ad' cap' (zs ++ le N 2) ∧ Kp [] w w' := by
  refine (appU16_any ad cap n ((N : Int) % 65536) zs hn w hr hb (by omega) (by omega)).mono ?_
  rw [show ((N : Int) % 65536).toNat = N % 256 ^ 2 by omega, le_mod]
  exact fun _ _ h => h
theorem appU32_le (ad : Option Addr) (cap n N : Nat) (zs : List Int) (hn : n = zs.length) (w : World) (hr : Rd w .u8 ad cap zs) (hb : n ≤ 1099511627000) :
    Calls Try.prog 25 #[.slice ad n cap, .int .u32 ((N : Int) % 4294967296)] w fun e w' => ∃ ad' cap', e = .returned (.slice ad' (n + 4) cap') ∧ Own w' w.heap.size 5 .u8 ad' cap' (zs ++ le N 4) ∧ Kp [] w w' := by
  refine (appU32_any ad cap n ((N : Int) % 4294967296) zs hn w hr hb (by omega) (by omega)).mono ?_
  rw [show ((N : Int) % 4294967296).toNat = N % 256 ^ 4 by omega, le_mod]
  exact fun _ _ h => h

set_option maxRecDepth 100000 in
set_option maxHeartbeats 3000000 in
theorem writes01_walk (a0 : Option Addr) (cap0 N : Nat) (bs : List Int) (w : World) (r0 : Rd w .u8 a0 cap0 bs) (hN : N < 18446744073709551616) :
    Calls Try.prog 6 #[.slice a0 bs.length cap0, .int .u64 (N : Int)] w fun e w' => e = .returned (.bool true) ∧ Kp [] w w' := by
  obtain ⟨n, hn⟩ : ∃ n, n = bs.length := ⟨_, rfl⟩
  rw [← hn]
  have HN := Lib.hid hn
  have HR := Lib.hid r0
  have HNN := Lib.hid hN
  clear hn r0 hN
  by_cases h1 : 2000 < n
  · go_enter Try.func6, Try.ntmps6
    go_wp2_with (go_at_call 23; refine (known01 _).mono ?_; rintro e w' ⟨rfl, kp⟩)
    go_ret
    exact ⟨rfl, kp⟩
  obtain ⟨ss, hss⟩ : ∃ ss, ss = (short N).length := ⟨_, rfl⟩
  have hss1 : ss ≤ 10 := by rw [hss]; exact (short_length N).2
  have HSS := Lib.hid hss
  clear hss
  have hmk : ∀ wx : World, (Instr.makeSlice 40 (.int .i64 0) (.int .i64 ((n : Int) + 30))).run Try.prog wx = .ok (.slice (some ⟨wx.heap.size, 0, none⟩) 0 (n + 30)) (wx.alloc (.cells (ints .u8 (List.replicate (n + 30) 0)) 5)) := by
    intro wx
    have := make_ints0 (P := Try.prog) wx 40 5 .u8 .i64 .i64 (n + 30) 1 Try.underlying40 infoU8 (by omega) (by omega)
    rw [show (((n + 30 : Nat)) : Int) = (n : Int) + 30 by omega] at this
    exact this
  go_enter Try.func6, Try.ntmps6
  go_wp2_with (at_builtin; refine wpList_app rfl (.tmp 18) (.tmp 19) 40 40 rfl w.heap.size 5 .u8 1 Try.underlying40 infoU8 (some ⟨w.heap.size, 0, none⟩) (n + 30) 0 [] rfl bs _ n HN.out rfl rfl (Own.made (Nat.le_refl _) (heap_alloc_at rfl) (by omega)) (by rw [HN.out]; exact src_rd (HR.out.alloc _) Try.underlying40) (by omega) (by omega) (by simp) ?_; intro adI capI w1 ho1 kp1 hob1 _; have kw1 : Kp [] w w1 := ((Kp.refl [] w).alloc _).trans kp1 (by simp) (fun x hx => by simp [ob] at hx; exact .inr (by omega)); have hcv0 := conv_str (P := Try.prog) w1 40 9 5 Try.underlying40 Try.underlying5 Try.underlying9 a0 cap0 n bs (HR.out.keep0 kw1) HN.out)
  rw [List.nil_append] at ho1
  have HI1 := Lib.hid ho1
  clear ho1 kp1 hob1 hmk hcv0
  refine (appU16_le adI capI n N bs HN.out w1 HI1.out.rd (by omega)).mono ?_
  rintro e w2 ⟨ad0, cp0, rfl, ho2, kp2⟩
  have HI2 := Lib.hid (HI1.out.keep0 kp2)
  have HA2 := Lib.hid ho2
  have kw2 := kw1.tr kp2
  clear ho2
  go_wp2_with fail
  refine (appU32_le adI capI n N bs HN.out w2 HI2.out.rd (by omega)).mono ?_
  rintro e w3 ⟨ad1, cp1, rfl, ho3, kp3⟩
  have HI3 := Lib.hid (HI2.out.keep0 kp3)
  have HB3 := Lib.hid ho3
  have kw3 := kw2.tr kp3
  clear ho3
  go_wp2_with fail
  refine (appU64_any adI capI n (N : Int) bs HN.out w3 HI3.out.rd (by omega) (by omega)).mono ?_
  rw [Int.toNat_natCast]
  rintro e w4 ⟨ad2, cp2, rfl, ho4, kp4⟩
  have HI4 := Lib.hid (HI3.out.keep0 kp4)
  have HC4 := Lib.hid ho4
  have kw4 := kw3.tr kp4
  clear ho4
  go_wp2_with fail
  refine (appUint_any adI capI n (N : Int) bs HN.out w4 HI4.out.rd (by omega) (by omega) (by have := HNN.out; omega)).mono ?_
  rw [Int.toNat_natCast, ← HSS.out]
  rintro e w5 ⟨ad3, cp3, rfl, ho5, kp5⟩
  have HI5 := Lib.hid (HI4.out.keep0 kp5)
  have HD5 := Lib.hid ho5
  have kw5 := kw4.tr kp5
  clear ho5
  go_wp2_with fail
  obtain ⟨w6, hw6⟩ : ∃ w6, w6 = w5.alloc (Obj.cells #[.slice ad0 (n + 2) cp0, .slice ad1 (n + 4) cp1, .slice ad2 (n + 8) cp2, .slice ad3 (n + ss) cp3] 49) := ⟨_, rfl⟩
  rw [← hw6]
  have hb7 : w6.heap[w5.heap.size]? = some (.cells #[.slice ad0 (n + 2) cp0, .slice ad1 (n + 4) cp1, .slice ad2 (n + 8) cp2, .slice ad3 (n + ss) cp3] 49) := by rw [hw6]; exact heap_alloc_at rfl
  have kp6 : Kp [] w5 w6 := by rw [hw6]; exact (Kp.refl [] w5).alloc _
  have hz6 : w6.heap.size = w5.heap.size + 1 := by rw [hw6]; simp
  have HZ6 := Lib.hid hz6
  have HB7 := Lib.hid hb7
  have KP6 := Lib.hid kp6
  clear hw6 hb7 kp6 hz6
  have hS0 : ∀ x ∈ ([] : List Nat), x < w6.heap.size := by simp
  refine wp_region_GS (by kernel_rfl) [] [.val (.string (strOfNums bs)), .val (.int .u64 (N : Int)), .own w6.heap.size hS0 5 .u8 2 (le N 2), .val (.string (strOfNums (le N 2))), .val (.string (strOfNums (bs ++ le N 2))), .val (.string (strOfNums bs)), .val (.int .u64 (N : Int)), .own w6.heap.size hS0 5 .u8 4 (le N 4), .val (.string (strOfNums (le N 4))), .val (.string (strOfNums (bs ++ le N 4))), .val (.string (strOfNums bs)), .val (.int .u64 (N : Int)), .own w6.heap.size hS0 5 .u8 8 (le N 8), .val (.string (strOfNums (le N 8))), .val (.string (strOfNums (bs ++ le N 8))), .val (.string (strOfNums bs)), .val (.int .u64 (N : Int)), .own w6.heap.size hS0 5 .u8 ss (short N), .val (.string (strOfNums (short N))), .val (.string (strOfNums (bs ++ short N))), .val (.agg #[.string (strOfNums (bs ++ le N 2)), .string (strOfNums (bs ++ le N 4)), .string (strOfNums (bs ++ le N 8)), .string (strOfNums (bs ++ short N))]), .var w6.heap.size hS0 #[.string ⟨#[]⟩, .string ⟨#[]⟩, .string ⟨#[]⟩, .string ⟨#[]⟩] 52] [[(6, none)], [(1, none)], [(39, some 1)], [(40, some 2)], [(38, some 0), (41, some 3)], [(6, none)], [(1, none)], [(44, some 6)], [(45, some 7)], [(43, some 5), (46, some 8)], [(6, none)], [(1, none)], [(49, some 11)], [(50, some 12)], [(48, some 10), (51, some 13)], [(6, none)], [(1, none)], [(54, some 16)], [(55, some 17)], [(53, some 15), (56, some 18)], [(42, some 4), (47, some 9), (52, some 14), (57, some 19)], []] [] (fun _ _ => True) 22 rfl (by kernel_rfl) (by kernel_rfl) (by kernel_rfl) (by kernel_rfl) (by kernel_rfl) (by simp) (fun _ _ _ h _ => h) trivial ?_ ?_
  · refine (ObG.free rfl ?o0 (ObG.free rfl ?o1 (ObG.free rfl ?o2 (ObG.free rfl ?o3 (ObG.free rfl ?o4 (ObG.free rfl ?o5 (ObG.free rfl ?o6 (ObG.free rfl ?o7 (ObG.free rfl ?o8 (ObG.free rfl ?o9 (ObG.free rfl ?o10 (ObG.free rfl ?o11 (ObG.free rfl ?o12 (ObG.free rfl ?o13 (ObG.free rfl ?o14 (ObG.free rfl ?o15 (ObG.free rfl ?o16 (ObG.free rfl ?o17 (ObG.free rfl ?o18 (ObG.free rfl ?o19 (ObG.free rfl ?o20 (ObG.free rfl ?o21 trivial))))))))))))))))))))))
    case o0 => intro aR wR mR hR hI; replace hR := hR.undrew; intro (h6 : aR.tmps[6]? = some (.string (strOfNums bs))); exact exec_val (c := .string (strOfNums bs)) (wanted_none rfl) (by go_simp) rfl
    case o1 => intro aR wR mR hR hI; replace hR := hR.undrew; intro (h1 : aR.tmps[1]? = some (.int .u64 (N : Int))); exact exec_val (c := .int .u64 (N : Int)) (wanted_none rfl) (by go_simp) rfl
    case o2 => intro aR wR mR hR hI; replace hR := hR.undrew; intro v39 h39 e39; replace e39 : v39 = .int .u64 (N : Int) := e39; subst e39; refine exec_call (wanted_none rfl) (by go_simp; exact ⟨rfl, rfl⟩) ?_; refine (little_any N 2 _ HNN.out (by omega)).mono ?_; rintro e7 w7 ⟨ad, cap, rfl, ho, kp⟩; exact ⟨_, rfl, ⟨ad, cap, rfl, ho.mono hR.size⟩, kp⟩
    case o3 => intro aR wR mR hR hI; replace hR := hR.undrew; intro v40 h40 e40; obtain ⟨ad, cap, rfl, ho⟩ := e40; have hcv := conv_str wR 40 9 5 Try.underlying40 Try.underlying5 Try.underlying9 ad cap 2 _ ho.rd (by rw [le_length]); exact exec_val (c := .string (strOfNums (le N 2))) (wanted_none rfl) (by go_simp) rfl
    case o4 => intro aR wR mR hR hI; replace hR := hR.undrew; intro v38 h38 e38; replace e38 : v38 = .string (strOfNums bs) := e38; subst e38; intro v41 h41 e41; replace e41 : v41 = .string (strOfNums (le N 2)) := e41; subst e41; have hadd := run_str_add (P := Try.prog) wR bs (le N 2) (by rw [le_length, ← HN.out]; omega); exact exec_val (c := .string (strOfNums (bs ++ le N 2))) (wanted_none rfl) (by go_simp) rfl
    case o5 => intro aR wR mR hR hI; replace hR := hR.undrew; intro (h6 : aR.tmps[6]? = some (.string (strOfNums bs))); exact exec_val (c := .string (strOfNums bs)) (wanted_none rfl) (by go_simp) rfl
    case o6 => intro aR wR mR hR hI; replace hR := hR.undrew; intro (h1 : aR.tmps[1]? = some (.int .u64 (N : Int))); exact exec_val (c := .int .u64 (N : Int)) (wanted_none rfl) (by go_simp) rfl
    case o7 => intro aR wR mR hR hI; replace hR := hR.undrew; intro v44 h44 e44; replace e44 : v44 = .int .u64 (N : Int) := e44; subst e44; refine exec_call (wanted_none rfl) (by go_simp; exact ⟨rfl, rfl⟩) ?_; refine (little_any N 4 _ HNN.out (by omega)).mono ?_; rintro e7 w7 ⟨ad, cap, rfl, ho, kp⟩; exact ⟨_, rfl, ⟨ad, cap, rfl, ho.mono hR.size⟩, kp⟩
    case o8 => intro aR wR mR hR hI; replace hR := hR.undrew; intro v45 h45 e45; obtain ⟨ad, cap, rfl, ho⟩ := e45; have hcv := conv_str wR 40 9 5 Try.underlying40 Try.underlying5 Try.underlying9 ad cap 4 _ ho.rd (by rw [le_length]); exact exec_val (c := .string (strOfNums (le N 4))) (wanted_none rfl) (by go_simp) rfl
    case o9 => intro aR wR mR hR hI; replace hR := hR.undrew; intro v43 h43 e43; replace e43 : v43 = .string (strOfNums bs) := e43; subst e43; intro v46 h46 e46; replace e46 : v46 = .string (strOfNums (le N 4)) := e46; subst e46; have hadd := run_str_add (P := Try.prog) wR bs (le N 4) (by rw [le_length, ← HN.out]; omega); exact exec_val (c := .string (strOfNums (bs ++ le N 4))) (wanted_none rfl) (by go_simp) rfl
    case o10 => intro aR wR mR hR hI; replace hR := hR.undrew; intro (h6 : aR.tmps[6]? = some (.string (strOfNums bs))); exact exec_val (c := .string (strOfNums bs)) (wanted_none rfl) (by go_simp) rfl
    case o11 => intro aR wR mR hR hI; replace hR := hR.undrew; intro (h1 : aR.tmps[1]? = some (.int .u64 (N : Int))); exact exec_val (c := .int .u64 (N : Int)) (wanted_none rfl) (by go_simp) rfl
    case o12 => intro aR wR mR hR hI; replace hR := hR.undrew; intro v49 h49 e49; replace e49 : v49 = .int .u64 (N : Int) := e49; subst e49; refine exec_call (wanted_none rfl) (by go_simp; exact ⟨rfl, rfl⟩) ?_; refine (little_any N 8 _ HNN.out (by omega)).mono ?_; rintro e7 w7 ⟨ad, cap, rfl, ho, kp⟩; exact ⟨_, rfl, ⟨ad, cap, rfl, ho.mono hR.size⟩, kp⟩
    case o13 => intro aR wR mR hR hI; replace hR := hR.undrew; intro v50 h50 e50; obtain ⟨ad, cap, rfl, ho⟩ := e50; have hcv := conv_str wR 40 9 5 Try.underlying40 Try.underlying5 Try.underlying9 ad cap 8 _ ho.rd (by rw [le_length]); exact exec_val (c := .string (strOfNums (le N 8))) (wanted_none rfl) (by go_simp) rfl
    case o14 => intro aR wR mR hR hI; replace hR := hR.undrew; intro v48 h48 e48; replace e48 : v48 = .string (strOfNums bs) := e48; subst e48; intro v51 h51 e51; replace e51 : v51 = .string (strOfNums (le N 8)) := e51; subst e51; have hadd := run_str_add (P := Try.prog) wR bs (le N 8) (by rw [le_length, ← HN.out]; omega); exact exec_val (c := .string (strOfNums (bs ++ le N 8))) (wanted_none rfl) (by go_simp) rfl
    case o15 => intro aR wR mR hR hI; replace hR := hR.undrew; intro (h6 : aR.tmps[6]? = some (.string (strOfNums bs))); exact exec_val (c := .string (strOfNums bs)) (wanted_none rfl) (by go_simp) rfl
    case o16 => intro aR wR mR hR hI; replace hR := hR.undrew; intro (h1 : aR.tmps[1]? = some (.int .u64 (N : Int))); exact exec_val (c := .int .u64 (N : Int)) (wanted_none rfl) (by go_simp) rfl
    case o17 => intro aR wR mR hR hI; replace hR := hR.undrew; intro v54 h54 e54; replace e54 : v54 = .int .u64 (N : Int) := e54; subst e54; refine exec_call (wanted_none rfl) (by go_simp; exact ⟨rfl, rfl⟩) ?_; refine (r01short_n N ss HSS.out _ HNN.out).mono ?_; rintro e7 w7 ⟨ad, cap, rfl, ho, kp⟩; exact ⟨_, rfl, ⟨ad, cap, rfl, ho.mono hR.size⟩, kp⟩
    case o18 => intro aR wR mR hR hI; replace hR := hR.undrew; intro v55 h55 e55; obtain ⟨ad, cap, rfl, ho⟩ := e55; have hcv := conv_str wR 40 9 5 Try.underlying40 Try.underlying5 Try.underlying9 ad cap ss _ ho.rd HSS.out; exact exec_val (c := .string (strOfNums (short N))) (wanted_none rfl) (by go_simp) rfl
    case o19 => intro aR wR mR hR hI; replace hR := hR.undrew; intro v53 h53 e53; replace e53 : v53 = .string (strOfNums bs) := e53; subst e53; intro v56 h56 e56; replace e56 : v56 = .string (strOfNums (short N)) := e56; subst e56; have hadd := run_str_add (P := Try.prog) wR bs (short N) (by rw [← HSS.out, ← HN.out]; omega); exact exec_val (c := .string (strOfNums (bs ++ short N))) (wanted_none rfl) (by go_simp) rfl
    case o20 => intro aR wR mR hR hI; replace hR := hR.undrew; intro v42 h42 e42; replace e42 : v42 = .string (strOfNums (bs ++ le N 2)) := e42; subst e42; intro v47 h47 e47; replace e47 : v47 = .string (strOfNums (bs ++ le N 4)) := e47; subst e47; intro v52 h52 e52; replace e52 : v52 = .string (strOfNums (bs ++ le N 8)) := e52; subst e52; intro v57 h57 e57; replace e57 : v57 = .string (strOfNums (bs ++ short N)) := e57; subst e57; skip; exact exec_val (c := .agg #[.string (strOfNums (bs ++ le N 2)), .string (strOfNums (bs ++ le N 4)), .string (strOfNums (bs ++ le N 8)), .string (strOfNums (bs ++ short N))]) (wanted_none rfl) (by go_simp) rfl
    case o21 => intro aR wR mR hR hI; replace hR := hR.undrew; skip; exact exec_do (c := .pointer (some ⟨wR.heap.size, 0, none⟩)) (w' := wR.alloc (.cells #[.string ⟨#[]⟩, .string ⟨#[]⟩, .string ⟨#[]⟩, .string ⟨#[]⟩] 52)) (wanted_none rfl) (by go_simp) ⟨_, rfl, hR.size, heap_alloc_at rfl⟩ ((Kp.refl [] _).alloc _)
  · intro vs wR hR hI hV
    obtain ⟨e0, e1, e2, e3, e4, e5, e6, e7, e8, e9, e10, e11, e12, e13, e14, e15, e16, e17, e18, e19, e20, e21, -⟩ := hV
    replace e0 : vs 0 = .string (strOfNums bs) := e0
    replace e1 : vs 1 = .int .u64 (N : Int) := e1
    replace e3 : vs 3 = .string (strOfNums (le N 2)) := e3
    replace e4 : vs 4 = .string (strOfNums (bs ++ le N 2)) := e4
    replace e5 : vs 5 = .string (strOfNums bs) := e5
    replace e6 : vs 6 = .int .u64 (N : Int) := e6
    replace e8 : vs 8 = .string (strOfNums (le N 4)) := e8
    replace e9 : vs 9 = .string (strOfNums (bs ++ le N 4)) := e9
    replace e10 : vs 10 = .string (strOfNums bs) := e10
    replace e11 : vs 11 = .int .u64 (N : Int) := e11
    replace e13 : vs 13 = .string (strOfNums (le N 8)) := e13
    replace e14 : vs 14 = .string (strOfNums (bs ++ le N 8)) := e14
    replace e15 : vs 15 = .string (strOfNums bs) := e15
    replace e16 : vs 16 = .int .u64 (N : Int) := e16
    replace e18 : vs 18 = .string (strOfNums (short N)) := e18
    replace e19 : vs 19 = .string (strOfNums (bs ++ short N)) := e19
    replace e20 : vs 20 = .agg #[.string (strOfNums (bs ++ le N 2)), .string (strOfNums (bs ++ le N 4)), .string (strOfNums (bs ++ le N 8)), .string (strOfNums (bs ++ short N))] := e20
    simp only [putAll, List.take_succ_cons, List.take_zero, List.drop_succ_cons, List.drop_zero, e0, e1, e3, e4, e5, e6, e8, e9, e10, e11, e13, e14, e15, e16, e18, e19, e20, Nat.reduceAdd, Nat.zero_add]
    clear e0 e1 e3 e4 e5 e6 e8 e9 e10 e11 e13 e14 e15 e16 e18 e19 e20
    simp only [List.setIfInBounds_toArray, List.set_cons_succ, List.set_cons_zero]
    simp only [Nat.reduceAdd, Nat.zero_add] at e21
    obtain ⟨b8, hv8, hb80, hb8⟩ := e21
    rw [hv8]
    clear e2 e7 e12 e17 hv8
    have d0 := cell_of_row wR b8 0 _ _ _ hb8
    have d1 := cell_of_row wR b8 1 _ _ _ hb8
    have d2 := cell_of_row wR b8 2 _ _ _ hb8
    have d3 := cell_of_row wR b8 3 _ _ _ hb8
    have f0 := frozen_of_row wR b8 0 _ _ hb8
    have f1 := frozen_of_row wR b8 1 _ _ hb8
    have f2 := frozen_of_row wR b8 2 _ _ hb8
    have f3 := frozen_of_row wR b8 3 _ _ hb8
    have HB8 := Lib.hid hb8
    clear hb8
    go_wp2_with fail
    have g0 := heap_setCell_same wR b8 0 _ _ (.string (strOfNums (bs ++ le N 2))) HB8.out
    have g1 := heap_setCell_same _ b8 1 _ _ (.string (strOfNums (bs ++ le N 4))) g0
    have g2 := heap_setCell_same _ b8 2 _ _ (.string (strOfNums (bs ++ le N 8))) g1
    have g3 := heap_setCell_same _ b8 3 _ _ (.string (strOfNums (bs ++ short N))) g2
    have kp8 : Kp [b8] wR ((((wR.setCell ⟨b8, 0, none⟩ (.string (strOfNums (bs ++ le N 2)))).setCell ⟨b8, 1, none⟩ (.string (strOfNums (bs ++ le N 4)))).setCell ⟨b8, 2, none⟩ (.string (strOfNums (bs ++ le N 8)))).setCell ⟨b8, 3, none⟩ (.string (strOfNums (bs ++ short N)))) :=
      ((((Kp.refl [b8] wR).setCell _ _ (by simp)).setCell _ _ (by simp)).setCell _ _ (by simp)).setCell _ _ (by simp)
    generalize (((wR.setCell ⟨b8, 0, none⟩ (.string (strOfNums (bs ++ le N 2)))).setCell ⟨b8, 1, none⟩ (.string (strOfNums (bs ++ le N 4)))).setCell ⟨b8, 2, none⟩ (.string (strOfNums (bs ++ le N 8)))).setCell ⟨b8, 3, none⟩ (.string (strOfNums (bs ++ short N))) = w8 at *
    have z1 := kw1.size
    have z2 := kp2.size
    have z3 := kp3.size
    have z4 := kp4.size
    have z5 := kp5.size
    have z6 := HZ6.out
    have k68 : Kp [] w6 w8 := hR.trans kp8 (by simp) (by intro x hx; simp at hx; exact .inr (by omega))
    have k58 : Kp [] w5 w8 := KP6.out.tr k68
    obtain ⟨lo, hlo⟩ : ∃ lo : Nat → Nat, lo = fun j => match j with | 0 => w1.heap.size | 1 => w2.heap.size | 2 => w3.heap.size | 3 => w4.heap.size | _ => w5.heap.size := ⟨_, rfl⟩
    obtain ⟨ad, had⟩ : ∃ ad, ad = four ad0 ad1 ad2 ad3 := ⟨_, rfl⟩
    obtain ⟨cp, hcp⟩ : ∃ cp, cp = four cp0 cp1 cp2 cp3 := ⟨_, rfl⟩
    obtain ⟨zs, hzs⟩ : ∃ zs, zs = four (bs ++ le N 2) (bs ++ le N 4) (bs ++ le N 8) (bs ++ short N) := ⟨_, rfl⟩
    obtain ⟨b7, hb7⟩ : ∃ b7, b7 = w5.heap.size := ⟨_, rfl⟩
    have hlie : WLie w b7 b8 lo adI capI := by
      refine ⟨by rw [hlo]; exact z1, ?_, by rw [hlo, hb7]; exact Nat.le_refl _, by rw [hlo]; show w5.heap.size ≤ b8; omega, by rw [hlo]; exact fun b hb => (HI1.out.ob_ge b hb).2⟩
      intro i j hij
      rw [hlo]
      match i, j with
      | 0, 0 => exact Nat.le_refl _
      | 0, 1 => show w1.heap.size ≤ w2.heap.size; omega
      | 0, 2 => show w1.heap.size ≤ w3.heap.size; omega
      | 0, 3 => show w1.heap.size ≤ w4.heap.size; omega
      | 0, j + 4 => show w1.heap.size ≤ w5.heap.size; omega
      | 1, 1 => exact Nat.le_refl _
      | 1, 2 => show w2.heap.size ≤ w3.heap.size; omega
      | 1, 3 => show w2.heap.size ≤ w4.heap.size; omega
      | 1, j + 4 => show w2.heap.size ≤ w5.heap.size; omega
      | 2, 2 => exact Nat.le_refl _
      | 2, 3 => show w3.heap.size ≤ w4.heap.size; omega
      | 2, j + 4 => show w3.heap.size ≤ w5.heap.size; omega
      | 3, 3 => exact Nat.le_refl _
      | 3, j + 4 => show w4.heap.size ≤ w5.heap.size; omega
      | i + 4, j + 4 => exact Nat.le_refl _
      | 1, 0 => omega
      | 2, 0 => omega
      | 2, 1 => omega
      | 3, 0 => omega
      | 3, 1 => omega
      | 3, 2 => omega
      | i + 4, 0 => omega
      | i + 4, 1 => omega
      | i + 4, 2 => omega
      | i + 4, 3 => omega
    have hup : ∀ j, j < 4 → ∀ b, b ∈ ob (ad j) (cp j) → b < lo (j + 1) := by
      intro j hj
      rw [had, hcp, hlo]
      match j, hj with
      | 0, _ => exact fun b hb => (HA2.out.ob_ge b hb).2
      | 1, _ => exact fun b hb => (HB3.out.ob_ge b hb).2
      | 2, _ => exact fun b hb => (HC4.out.ob_ge b hb).2
      | 3, _ => exact fun b hb => (HD5.out.ob_ge b hb).2
    have h78 := (k68.get HB7.out (by simp))
    have hinv : WInv w w8 b7 b8 ad cp zs lo adI capI bs 0 := by
      refine ⟨?_, ?_, ?_, HI5.out.keep0 k58, kw5.tr k58⟩
      · intro j hj
        rw [hb7, had, hcp, hzs, cell_of_row w8 _ j _ _ _ h78]
        match j, hj with
        | 0, _ => simp [four, le_length, ← HN.out]
        | 1, _ => simp [four, le_length, ← HN.out]
        | 2, _ => simp [four, le_length, ← HN.out]
        | 3, _ => simp [four, ← HSS.out, ← HN.out]
      · intro j hj
        rw [hzs, cell_of_row w8 _ j _ _ _ g3]
        match j, hj with
        | 0, _ => simp [four]
        | 1, _ => simp [four]
        | 2, _ => simp [four]
        | 3, _ => simp [four]
      · intro j _ hj
        rw [had, hcp, hzs, hlo]
        match j, hj with
        | 0, _ => exact ((HA2.out.keep0 kp3).keep0 kp4).keep0 (kp5.tr k58)
        | 1, _ => exact (HB3.out.keep0 kp4).keep0 (kp5.tr k58)
        | 2, _ => exact HC4.out.keep0 (kp5.tr k58)
        | 3, _ => exact HD5.out.keep0 k58
    have hzl : ∀ j, (zs j).length ≤ 3000 := by
      intro j
      have q1 := HN.out
      have q2 := HSS.out
      rw [hzs]
      match j with
      | 0 => simp [four, le_length]; omega
      | 1 => simp [four, le_length]; omega
      | 2 => simp [four, le_length]; omega
      | j + 3 => simp [four]; omega
    have HLIE := Lib.hid hlie
    have HUP := Lib.hid hup
    have HINV := Lib.hid hinv
    have HZL := Lib.hid hzl
    rw [← hb7]
    clear g0 g1 g2 g3 kp8 k68 k58 hlo had hcp hzs hb7 hlie hup h78 hinv hzl z1 z2 z3 z4 z5 z6 HA2 HB3 HC4 HD5 HI1 HI2 HI3 HI4 HI5 HB7 HB8 KP6 HZ6 hS0 hR hI kw1 kw2 kw3 kw4 kw5 kp2 kp3 kp4 kp5 d0 d1 d2 d3 f0 f1 f2 f3 hb80 HR
    go_loopw [59] (fun i wr => ∃ k : Nat, k ≤ 4 ∧ i = .int .i64 k ∧ WInv w wr b7 b8 ad cp zs lo adI capI bs k) (fun i _ => 4 - (intOf i).toNat)
    case atStart => exact ⟨0, by omega, rfl, HINV.out⟩
    case round =>
      obtain ⟨k, hk, rfl, hi⟩ := hrel
      obtain ⟨wo, rfl⟩ : ∃ wo : World, wo = wr := ⟨_, rfl⟩
      clear HINV
      by_cases hk4 : (k : Int) < 4
      · have hk4' : k < 4 := by omega
        have c7 := hi.l k hk4'
        have c8 := hi.s k hk4'
        have ho := hi.own k (Nat.le_refl _) hk4'
        have hzk := HZL.out k
        have hupk := HUP.out k hk4'
        have hi1 : WInv w wo b7 b8 ad cp zs lo adI capI bs (k + 1) := ⟨hi.l, hi.s, fun j h1 h2 => hi.own j (by omega) h2, hi.inn, hi.kp⟩
        obtain ⟨A, hA⟩ : ∃ A, A = ad k := ⟨_, rfl⟩
        obtain ⟨Cp, hCp⟩ : ∃ Cp, Cp = cp k := ⟨_, rfl⟩
        obtain ⟨Z, hZ⟩ : ∃ Z, Z = zs k := ⟨_, rfl⟩
        obtain ⟨lz, hlz⟩ : ∃ lz, lz = Z.length := ⟨_, rfl⟩
        rw [← hA, ← hCp, ← hZ, ← hlz] at c7
        rw [← hZ] at c8 hzk
        rw [← hlz] at hzk
        rw [← hA, ← hCp, ← hZ] at ho
        rw [← hA, ← hCp] at hupk
        have HUK := Lib.hid hupk
        have HI1 := Lib.hid hi1
        have HA := Lib.hid hA
        have HCp := Lib.hid hCp
        have HZ := Lib.hid hZ
        have HLZ := Lib.hid hlz
        have HO := Lib.hid ho
        have hcv : ∀ nq, (convert 40 9 (.slice A lz Cp)).run Try.prog (wo.drewN nq) = .ok (.string (strOfNums Z)) (wo.drewN nq) := fun nq =>
          conv_str (P := Try.prog) _ 40 9 5 Try.underlying40 Try.underlying5 Try.underlying9 A Cp lz Z (HO.out.rd.keep0 ((Kp.refl [] wo).drewN nq)) HLZ.out
        have i0 : (0 : Int) ≤ (k : Int) := by omega
        clear hupk hi1 hA hCp hZ hlz ho hi
        go_wp2_with fail
        go_quiet (fail)
        go_wp2_with fail
        clear c7 c8 hcv
        have kdq : Kp [] wo (wo.drewN nq) := (Kp.refl [] wo).drewN nq
        have HOq := Lib.hid (HO.out.keep0 kdq)
        have HIq := Lib.hid (HI1.out.keep HLIE.out kdq hk4' (by simp))
        clear kdq HO HI1
        go_loopw [74] (fun j wr => ∃ (m : Nat) (s' : List Int), m ≤ lz ∧ j = .int .i64 m ∧ s'.length = lz ∧ Own wr (lo k) 5 .u8 A Cp s' ∧ WInv w wr b7 b8 ad cp zs lo adI capI bs (k + 1)) (fun j _ => lz - (intOf j).toNat)
        case atStart => exact ⟨0, Z, Nat.zero_le _, rfl, HLZ.out.symm, HOq.out, HIq.out⟩
        case round =>
          obtain ⟨m, s', hm, rfl, hs', ho', hi'⟩ := hrel
          have HS' := Lib.hid hs'
          have HI' := Lib.hid hi'
          have c7 := hi'.l k hk4'
          rw [← HA.out, ← HCp.out, ← HZ.out, ← HLZ.out] at c7
          clear hs' hi'
          by_cases hmz : m < lz
          · obtain ⟨g, rfl, q1, q2, q3, q4⟩ := ho'.at' (i := m) (by rw [HS'.out]; exact hmz)
            have hgu := HUK.out g q4
            have HO' := Lib.hid ho'
            clear ho'
            go_wp2_with fail
            go_roundw
            case rel =>
              exact ⟨m + 1, _, hmz, by go_num, by simp [HS'.out], HO'.out.set m _, HI'.out.keep HLIE.out ((Kp.refl [g] wr).setCell _ _ (by simp)) hk4' (by intro x hx; simp at hx; subst hx; exact ⟨q3, hgu⟩)⟩
            case measure => simp [intOf]; omega
          · clear ho'
            go_wp2_with fail
            go_roundw
            case rel => exact ⟨k + 1, by omega, by go_num, HI'.out⟩
            case measure => simp [intOf]; omega
      · have hcvI := conv_str (P := Try.prog) wo 40 9 5 Try.underlying40 Try.underlying5 Try.underlying9 adI capI n bs hi.inn.rd HN.out
        have kwo := hi.kp
        clear hi
        go_wp2_with (go_at_call 23; refine (known01 _).mono ?_; rintro e7 w9 ⟨rfl, kp9⟩)
        go_ret
        exact ⟨rfl, kwo.tr kp9⟩
end Go.Proofs.Ytanodmjolphpfaa
