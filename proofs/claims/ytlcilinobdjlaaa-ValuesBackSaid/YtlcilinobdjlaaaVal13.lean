/-
  Values: the law of bytes.
-/
import Derived.Test.YtlcilinobdjlaaaVal12
import Derived.Test.YtlcilinobdjlaaaVal5
import Derived.Test.YtlcilinobdjlaaaListL
namespace Go.Proofs.Ytlcilinobdjlaaa
open Go.RowKit
set_option linter.unusedSimpArgs false
set_option linter.unusedVariables false

theorem Own.keepO {w w' : World} {base base2 : Nat} {e : TypeId} {k : IntKind} {ad ad2 : Option Addr} {cap cap2 : Nat} {zs : List Int} (h : Own w base e k ad cap zs) (hk : Kp (ob ad2 cap2) w w') {w2 : World} {xs : List Int} (h2 : Own w2 base2 e k ad2 cap2 xs) {u : World} {zs' : List Int} {b3 : Nat} {e3 : TypeId} {k3 : IntKind} (hu : Own u b3 e3 k3 ad cap zs') (hb : u.heap.size ≤ base2) : Own w' base e k ad cap zs :=
  h.keep hk (fun b hb1 hb2 => by have := (hu.ob_ge b hb1).2; have := (h2.ob_ge b hb2).1; omega)
theorem Rd.keepO {w w' u : World} {k : IntKind} {ad ad2 : Option Addr} {cap cap2 base2 : Nat} {zs xs : List Int} {e2 : TypeId} {k2 : IntKind} (h : Rd w k ad cap zs) (hk : Kp (ob ad2 cap2) w w') {w2 : World} (h2 : Own w2 base2 e2 k2 ad2 cap2 xs) (hu : Rd u k ad cap zs) (hb : u.heap.size ≤ base2) : Rd w' k ad cap zs :=
  h.keepne hk (fun x hx hne hm => by have := hu.lt x hx hne; have := (h2.ob_ge _ hm).1; omega)

theorem cuint_w (bs : List Int) (a : Nat) (b : Bool) (hb : Bytes8 bs) :
    ∃ (v a' : Nat) (b' : Bool), v < 18446744073709551616 ∧ (∀ (p : Nat) (w : World) (L : Nat), Rdr w L p bs a b → Calls Try.prog 58 #[.pointer (some ⟨p, 0, none⟩)] w fun e w' => e = .returned (.int .u64 (v : Int)) ∧ Rdr w' L p bs a' b' ∧ Kp [p] w w') ∧
      (∀ (q : Nat) (w : World) (L : Nat → Prop), Rdr01 w L q bs a b → Calls Try.prog 49 #[.pointer (some ⟨q, 0, none⟩)] w fun e w' => e = .returned (.int .u64 (v : Int)) ∧ Rdr01 w' L q bs a' b' ∧ Kp [q] w w') := by
  cases b with
  | true => exact ⟨0, a, true, by omega, fun p w L h => (cuint_bad p bs a w h).mono fun e w' ⟨h1, h2⟩ => ⟨h1, h2 ▸ h, h2 ▸ Kp.refl _ _⟩, fun q w L h => (r01uint_bad q bs a w h).mono fun e w' ⟨h1, h2⟩ => ⟨h1, h2 ▸ h, h2 ▸ Kp.refl _ _⟩⟩
  | false =>
    by_cases hs : ∃ n, Stands bs a n
    · obtain ⟨n, hn⟩ := hs
      exact ⟨n, a + (short n).length, false, hn.1, fun p w L h => cuint_yes p bs a n _ w h hb hn rfl, fun q w L h => r01uint_yes q bs a n _ w h hb hn rfl⟩
    · have hs' : ∀ n, ¬ Stands bs a n := fun n hn => hs ⟨n, hn⟩
      exact ⟨0, a, true, by omega, fun p w L h => cuint_no p bs a w h hb hs', fun q w L h => r01uint_no q bs a w h hb hs'⟩

theorem rv_form (bs : List Int) (a : Nat) (b : Bool) (v : Nat) : (∃ k n s, rvI bs a b = .agg #[.int .u8 k, .int .i64 n, .string s]) ∧ ∃ k n s, rvT bs a b v = .agg #[.int .u8 k, .int .i64 n, .string s] := by
  constructor
  · unfold rvI; split <;> exact ⟨_, _, _, rfl⟩
  · unfold rvT; split
    · exact ⟨_, _, _, rfl⟩
    · split <;> exact ⟨_, _, _, rfl⟩
theorem vread_v (bs : List Int) (a : Nat) (b : Bool) (kd : Int) (hb : Bytes8 bs) :
    ∃ (k n : Int) (s : ByteArray) (ok : Bool) (a' : Nat) (b' : Bool), (∀ (p : Nat) (w : World) (L : Nat), L ≤ w.heap.size → Rdr w L p bs a b → Calls Try.prog 29 #[.pointer (some ⟨p, 0, none⟩), .int .u8 kd] w fun e w' => e = .returned (.tuple #[.agg #[.int .u8 k, .int .i64 n, .string s], .bool ok]) ∧ Rdr w' L p bs a' b' ∧ Kp [p] w w') ∧
      (∀ (q : Nat) (w : World) (L : Nat → Prop), (∀ x, L x → x < w.heap.size) → Rdr01 w L q bs a b → Calls Try.prog 30 #[.pointer (some ⟨q, 0, none⟩), .int .u8 kd] w fun e w' => e = .returned (.tuple #[.agg #[.int .u8 k, .int .i64 n, .string s], .bool ok]) ∧ Rdr01 w' L q bs a' b' ∧ Kp [q] w w') := by
  by_cases h1 : kd = 1
  · subst h1
    obtain ⟨k, n, s, hv⟩ := (rv_form bs a b 0).1
    exact ⟨k, n, s, _, _, _, fun p w L hL h => by rw [← hv]; exact vRead_int p bs a b w h hb hL, fun q w L hL h => by rw [← hv]; exact r10Read_int q bs a b w h hb hL⟩
  by_cases h2 : kd = 2
  · subst h2
    obtain ⟨v, a1, b1, hvl, hp, hr⟩ := cuint_w bs a b hb
    obtain ⟨k, n, s, hv⟩ := (rv_form bs a1 b1 v).2
    exact ⟨k, n, s, _, _, _, fun p w L hL h => by rw [← hv]; exact vRead_text p bs a b v a1 b1 w h hL hvl (fun wx hx => hp p wx L hx), fun q w L hL h => by rw [← hv]; exact r10Read_text q bs a b v a1 b1 w h hL hvl (fun wx hx => hr q wx L hx)⟩
  exact ⟨0, 0, ⟨#[]⟩, false, a, b, fun p w L hL h => (vRead_none p bs a b kd w h h1 h2).mono fun e w' ⟨q1, q2, q3⟩ => ⟨q1, q2, kp_more q3⟩, fun q w L hL h => (r10Read_none q bs a b kd w h h1 h2).mono fun e w' ⟨q1, q2, q3⟩ => ⟨q1, q2, kp_more q3⟩⟩

theorem valB_length (k n : Int) (s : ByteArray) : (valB k n s).length ≤ s.size + 10 := by
  have h1 := (short_length s.size).2
  unfold valB
  split
  · rw [le_length]; omega
  · split
    · rw [List.length_append, sbytes_length]; omega
    · simp

set_option maxRecDepth 100000 in
set_option maxHeartbeats 2000000 in
theorem valuesBytes_any (k n : Int) (s : ByteArray) (a0 : Option Addr) (cap0 m : Nat) (zs : List Int) (kd : Int) (hm : m = zs.length) (w : World) (hr : Rd w .u8 a0 cap0 zs) (hb : Bytes8 zs) :
    Calls Try.prog 10 #[.agg #[.int .u8 k, .int .i64 n, .string s], .slice a0 m cap0, .int .u8 kd] w fun e w' => e = .returned (.bool true) ∧ Kp [] w w' := by
  have HR := Lib.hid hr
  have HM := Lib.hid hm
  clear hr hm
  by_cases h0 : (70000 : Int) < (s.size : Int)
  · go_enter Try.func10, Try.ntmps10
    go_wp2_with fail
    refine (known10_any _).mono ?_
    rintro e w1 ⟨rfl, kp1⟩
    go_wp2_with fail
    go_ret
    exact ⟨rfl, ((Kp.refl [] w).alloc _).tr kp1⟩
  by_cases h1 : (70000 : Int) < (m : Int)
  · go_enter Try.func10, Try.ntmps10
    go_wp2_with fail
    refine (known10_any _).mono ?_
    rintro e w1 ⟨rfl, kp1⟩
    go_wp2_with fail
    go_ret
    exact ⟨rfl, ((Kp.refl [] w).alloc _).tr kp1⟩
  have hmk := fun wx : World => make_ints0 (P := Try.prog) wx 22 5 .u8 .i64 .i64 (m + 9) 1 Try.underlying22 infoU8 (by omega) (by omega)
  have hm9 : ((m + 9 : Nat) : Int) = (m : Int) + 9 := by omega
  rw [hm9] at hmk
  have hw9 : IntKind.i64.wrap ((m : Int) + 9) = (m : Int) + 9 := by rw [IntWalk.i64_in _ (by omega)]
  go_enter Try.func10, Try.ntmps10
  go_wp2_with (at_builtin; go_must (refine wpList_app rfl (.tmp 29) (.tmp 30) 22 22 rfl (w.heap.size + 1) 5 .u8 1 Try.underlying22 infoU8 (some ⟨w.heap.size + 1, 0, none⟩) (m + 9) 0 [] rfl zs (.slice a0 m cap0) m HM.out rfl rfl (Own.made (Nat.le_refl _) (heap_alloc_at (by simp)) (by omega)) (by rw [HM.out]; exact src_rd ((HR.out.alloc _).alloc _) Try.underlying22) (by omega) (by omega) (by simp) ?_); go_must (intro ad1 cap1 w1 ho1 kp1 hob1 _; rw [List.nil_append] at ho1; have HO1 := Lib.hid ho1; have HK1 := Lib.hid ((((Kp.refl [] w).alloc (.cells #[.int .u8 k, .int .i64 n, .string s] 36)).alloc (.cells (ints .u8 (List.replicate (m + 9) 0)) 5)).trans kp1 (U := []) (by simp) (by simp [ob])); have H3 := Lib.hid (kp1.get (cells_alloc (heap_alloc_at (o := .cells #[.int .u8 k, .int .i64 n, .string s] 36) rfl)) (by simp [ob])); clear ho1 kp1 hob1; have hd := cells3 H3.out; have d0 := hd.1; have d1 := hd.2.1; have d2 := hd.2.2; clear hd))
  obtain ⟨y, hy⟩ : ∃ y, y = valB k n s := ⟨_, rfl⟩
  have hyl := valB_length k n s
  have hyb : Bytes8 y := by
    rw [hy]; unfold valB
    split
    · exact le_bytes _ _
    · split
      · refine bytes8_append (short_bytes _ (by omega)) (fun z hz => ?_)
        obtain ⟨b, -, rfl⟩ := List.mem_map.1 hz
        have := b.toNat_lt
        omega
      · intro z hz; simp at hz
  refine (vAppend_any k n s ad1 cap1 m zs HM.out _ HO1.out.rd (by omega) (by omega)).mono ?_
  rintro e w2 ⟨ad2, cap2, rfl, ho2, kp2⟩
  rw [← hy] at ho2 hyl ⊢
  obtain ⟨ly, hly⟩ : ∃ ly, ly = y.length := ⟨_, rfl⟩
  rw [← hly] at hyl ⊢
  have HO2 := Lib.hid ho2
  have HLY := Lib.hid hly
  have HY := Lib.hid hy
  have HYB := Lib.hid hyb
  have HK2 := Lib.hid kp2
  have H32 := Lib.hid (cells3 (kp2.get H3.out (by simp)))
  clear ho2 hly hy hyb kp2 d0 d1 d2
  go_wp2_with fail
  refine wp_region_K (by kernel_rfl) [.val (.slice ad2 (m + ly) cap2), .val (.string (strOfNums (zs ++ y))), .val (.slice a0 m cap0), .val (.string (strOfNums zs)), .val (.agg #[.int .u8 k, .int .i64 n, .string s]), .own w2.heap.size 5 .u8 ly y, .val (.string (strOfNums y)), .val (.string (strOfNums (zs ++ y))), .val (.bool false), .val (.bool false), .val (.slice ad1 m cap1), .val (.string (strOfNums zs)), .val (.slice a0 m cap0), .val (.string (strOfNums zs)), .val (.bool false), .val (.bool false)] [[(8, none)], [(35, some 0)], [(1, none)], [(37, some 2)], [(3, none)], [(39, some 4)], [(40, some 5)], [(38, some 3), (41, some 6)], [(36, some 1), (42, some 7)], [(43, some 8)], [(44, some 9), (7, none)], [(44, some 9), (45, some 10)], [(44, some 9), (1, none)], [(44, some 9), (47, some 12)], [(44, some 9), (46, some 11), (48, some 13)], [(44, some 9), (49, some 14)]] rfl (by kernel_rfl) ?_ ?_
  · refine ⟨?o0, ?o1, ?o2, ?o3, ?o4, ?o5, ?o6, ?o7, ?o8, ?o9, ?o10, ?o11, ?o12, ?o13, ?o14, ?o15, trivial⟩
    case o0 => intro aR wR hR; replace hR := hR.undrew; intro (h8 : aR.tmps[8]? = some (.slice ad2 (m + ly) cap2)); exact exec_val (c := .slice ad2 (m + ly) cap2) (wanted_none rfl) (by go_simp) rfl
    case o1 => intro aR wR hR; replace hR := hR.undrew; intro v35 h35 e35; replace e35 : v35 = .slice ad2 (m + ly) cap2 := e35; subst e35; (have hcv := cvs wR ad2 cap2 (m + ly) (zs ++ y) (HO2.out.rd.keep0 hR) (by rw [List.length_append, HM.out, HLY.out])); exact exec_val (c := .string (strOfNums (zs ++ y))) (wanted_none rfl) (by go_simp) rfl
    case o2 => intro aR wR hR; replace hR := hR.undrew; intro (h1 : aR.tmps[1]? = some (.slice a0 m cap0)); exact exec_val (c := .slice a0 m cap0) (wanted_none rfl) (by go_simp) rfl
    case o3 => intro aR wR hR; replace hR := hR.undrew; intro v37 h37 e37; replace e37 : v37 = .slice a0 m cap0 := e37; subst e37; (have hcv := cvs wR a0 cap0 m zs (HR.out.keep0 ((HK1.out.tr HK2.out).tr hR)) HM.out); exact exec_val (c := .string (strOfNums zs)) (wanted_none rfl) (by go_simp) rfl
    case o4 => intro aR wR hR; replace hR := hR.undrew; intro (h3 : aR.tmps[3]? = some (.pointer (some ⟨w.heap.size, 0, none⟩))); (have c0 := hR.cell H32.out.1 (by simp); have c1 := hR.cell H32.out.2.1 (by simp); have c2 := hR.cell H32.out.2.2 (by simp)); exact exec_val (c := .agg #[.int .u8 k, .int .i64 n, .string s]) (wanted_none rfl) (by go_simp) rfl
    case o5 => intro aR wR hR; replace hR := hR.undrew; intro v39 h39 e39; replace e39 : v39 = .agg #[.int .u8 k, .int .i64 n, .string s] := e39; subst e39; refine exec_call (wanted_none rfl) (by go_simp; exact ⟨rfl, rfl⟩) ?_; refine (r10Bytes_any k n s _ (by omega)).mono ?_; rintro e w7 ⟨ad7, cap7, rfl, ho7, kp7⟩; rw [← HY.out] at ho7 ⊢; exact ⟨_, rfl, ⟨ad7, cap7, by rw [HLY.out], ho7.mono hR.size⟩, kp7⟩
    case o6 => intro aR wR hR; replace hR := hR.undrew; intro v40 h40 e40; (obtain ⟨ad, cap, rfl, ho⟩ := e40; have hcv := cvs wR ad cap ly y ho.rd HLY.out); exact exec_val (c := .string (strOfNums y)) (wanted_none rfl) (by go_simp) rfl
    case o7 => intro aR wR hR; replace hR := hR.undrew; intro v38 h38 e38; replace e38 : v38 = .string (strOfNums zs) := e38; subst e38; intro v41 h41 e41; replace e41 : v41 = .string (strOfNums y) := e41; subst e41; (have hadd := run_str_add (P := Try.prog) wR zs y (by rw [← HM.out, ← HLY.out]; omega)); exact exec_val (c := .string (strOfNums (zs ++ y))) (wanted_none rfl) (by go_simp) rfl
    case o8 => intro aR wR hR; replace hR := hR.undrew; intro v36 h36 e36; replace e36 : v36 = .string (strOfNums (zs ++ y)) := e36; subst e36; intro v42 h42 e42; replace e42 : v42 = .string (strOfNums (zs ++ y)) := e42; subst e42; exact exec_val (c := .bool false) (wanted_none rfl) (by go_simp) rfl
    case o9 => intro aR wR hR; replace hR := hR.undrew; intro v43 h43 e43; replace e43 : v43 = .bool false := e43; subst e43; exact exec_val (c := .bool false) (wanted_none rfl) (by go_simp) rfl
    case o10 => intro aR wR hR; replace hR := hR.undrew; intro v44 h44 e44; replace e44 : v44 = .bool false := e44; subst e44; intro (h7 : aR.tmps[7]? = some (.slice ad1 m cap1)); exact exec_val (c := .slice ad1 m cap1) (wanted_yes (b := false) (t := 44) rfl rfl h44) (by go_simp) rfl
    case o11 => intro aR wR hR; replace hR := hR.undrew; intro v44 h44 e44; replace e44 : v44 = .bool false := e44; subst e44; intro v45 h45 e45; replace e45 : v45 = .slice ad1 m cap1 := e45; subst e45; (have hcv := cvs wR ad1 cap1 m zs ((HO1.out.keep0 HK2.out).rd.keep0 hR) HM.out); exact exec_val (c := .string (strOfNums zs)) (wanted_yes (b := false) (t := 44) rfl rfl h44) (by go_simp) rfl
    case o12 => intro aR wR hR; replace hR := hR.undrew; intro v44 h44 e44; replace e44 : v44 = .bool false := e44; subst e44; intro (h1 : aR.tmps[1]? = some (.slice a0 m cap0)); exact exec_val (c := .slice a0 m cap0) (wanted_yes (b := false) (t := 44) rfl rfl h44) (by go_simp) rfl
    case o13 => intro aR wR hR; replace hR := hR.undrew; intro v44 h44 e44; replace e44 : v44 = .bool false := e44; subst e44; intro v47 h47 e47; replace e47 : v47 = .slice a0 m cap0 := e47; subst e47; (have hcv := cvs wR a0 cap0 m zs (HR.out.keep0 ((HK1.out.tr HK2.out).tr hR)) HM.out); exact exec_val (c := .string (strOfNums zs)) (wanted_yes (b := false) (t := 44) rfl rfl h44) (by go_simp) rfl
    case o14 => intro aR wR hR; replace hR := hR.undrew; intro v44 h44 e44; replace e44 : v44 = .bool false := e44; subst e44; intro v46 h46 e46; replace e46 : v46 = .string (strOfNums zs) := e46; subst e46; intro v48 h48 e48; replace e48 : v48 = .string (strOfNums zs) := e48; subst e48; exact exec_val (c := .bool false) (wanted_yes (b := false) (t := 44) rfl rfl h44) (by go_simp) rfl
    case o15 => intro aR wR hR; replace hR := hR.undrew; intro v44 h44 e44; replace e44 : v44 = .bool false := e44; subst e44; intro v49 h49 e49; replace e49 : v49 = .bool false := e49; subst e49; exact exec_val (c := .bool false) (wanted_none rfl) (by go_simp) rfl
  · intro vs wR hR hV
    obtain ⟨e0, e1, e2, e3, e4, e5, e6, e7, e8, e9, e10, e11, e12, e13, e14, e15, -⟩ := hV
    replace e0 : vs 0 = .slice ad2 (m + ly) cap2 := e0
    replace e1 : vs 1 = .string (strOfNums (zs ++ y)) := e1
    replace e2 : vs 2 = .slice a0 m cap0 := e2
    replace e3 : vs 3 = .string (strOfNums zs) := e3
    replace e4 : vs 4 = .agg #[.int .u8 k, .int .i64 n, .string s] := e4
    replace e6 : vs 6 = .string (strOfNums y) := e6
    replace e7 : vs 7 = .string (strOfNums (zs ++ y)) := e7
    replace e8 : vs 8 = .bool false := e8
    replace e9 : vs 9 = .bool false := e9
    replace e10 : vs 10 = .slice ad1 m cap1 := e10
    replace e11 : vs 11 = .string (strOfNums zs) := e11
    replace e12 : vs 12 = .slice a0 m cap0 := e12
    replace e13 : vs 13 = .string (strOfNums zs) := e13
    replace e14 : vs 14 = .bool false := e14
    replace e15 : vs 15 = .bool false := e15
    simp only [putAll, e0, e1, e2, e3, e4, e6, e7, e8, e9, e10, e11, e12, e13, e14, e15, Nat.reduceAdd, Nat.zero_add]
    clear e0 e1 e2 e3 e4 e6 e7 e8 e9 e10 e11 e12 e13 e14 e15
    try simp only [List.setIfInBounds_toArray, List.set_cons_succ, List.set_cons_zero]
    have HK3 := Lib.hid ((HK1.out.tr HK2.out).tr hR)
    have HK23 := Lib.hid (HK2.out.tr hR)
    have HO23 := Lib.hid (HO2.out.keep0 hR)
    clear hR
    obtain ⟨wl, hwl⟩ : ∃ wl, wl = wR := ⟨_, rfl⟩
    have hsl : w1.heap.size ≤ wR.heap.size := HK23.out.size
    have hsw : w.heap.size ≤ w1.heap.size := HK1.out.size
    go_wp2_with fail
    go_loopw [9, 53] (fun _ vi wr => ∃ (i : Nat) (xs : List Int), i ≤ m + ly ∧ vi = .int .i64 i ∧ Own wr w1.heap.size 5 .u8 ad2 cap2 xs ∧ xs.length = m + ly ∧ Kp (ob ad2 cap2) wl wr) (fun _ i _ => m + ly - (intOf i).toNat)
    case atStart => exact ⟨0, _, Nat.zero_le _, rfl, HO23.out, by rw [List.length_append, ← HM.out, ← HLY.out], by rw [hwl]; exact Kp.refl _ _⟩
    case round =>
      obtain ⟨i, xs, hi, rfl, ho, hxs, kp⟩ := hrel
      by_cases hlt : i < m + ly
      · obtain ⟨g, rfl, hc, hf, hg1, hg2⟩ := ho.at' (i := i) (by omega)
        obtain ⟨z, hz⟩ : ∃ z, z = nth xs i := ⟨_, rfl⟩
        rw [← hz] at hc
        have hset := ho.set i (IntKind.u8.wrap (z + 1))
        have hkp := kp_same kp ((Kp.refl (ob (some ⟨g, 0, none⟩) cap2) wr).setCell ⟨g, i, none⟩ (.int .u8 (IntKind.u8.wrap (z + 1))) (.inl hg2))
        have hcap := ho.rd.1
        have HO := Lib.hid hset
        have HKP := Lib.hid hkp
        have hws : (IntKind.u8.wrap (z + 1)) = (z + 1) % 256 := IntKind.wrap_u8 _
        rw [hws] at HO HKP
        clear hset hkp hz hws ho kp
        go_wp2_with fail
        go_roundw
        case rel => exact ⟨i + 1, _, by omega, by go_num, HO.out, by simp [hxs], HKP.out⟩
        case measure => simp [intOf]; omega
      · have HOI := Lib.hid ((HO1.out.keep0 HK23.out).keepO (hwl ▸ kp) ho HO1.out (Nat.le_refl _))
        have HRI := Lib.hid ((HR.out.keep0 HK3.out).keepO (hwl ▸ kp) ho HR.out hsw)
        have HKK := Lib.hid (show Kp [] w wr from HK3.out.trans (hwl ▸ kp) (by simp) (fun x hx => .inr (by have := (ho.ob_ge x hx).1; omega)))
        clear ho kp hxs
        go_wp2_with fail
        refine (cnew_any a0 cap0 m zs HM.out _ HRI.out (by omega)).mono ?_
        rintro e w4 ⟨p, rfl, hp, hd4, kp4⟩
        go_wp2_with fail
        obtain ⟨w5, hw5⟩ : ∃ w5, w5 = w4.alloc (Obj.cells #[Value.slice a0 m cap0, Value.int IntKind.i64 0, Value.bool false] 49) := ⟨_, rfl⟩
        rw [← hw5]
        have HW5 := Lib.hid hw5
        have k5 : Kp [] w4 w5 := by rw [hw5]; exact (Kp.refl [] w4).alloc _
        have hs5 : w4.heap.size < w5.heap.size := by rw [hw5]; simp
        have hq5 : w5.heap[w4.heap.size]? = some (.cells #[.slice a0 zs.length cap0, .int .i64 (0 : Nat), .bool false] 49) := by rw [hw5, ← HM.out]; exact heap_alloc_at rfl
        obtain ⟨q, hq⟩ : ∃ q, q = w4.heap.size := ⟨_, rfl⟩
        have hqa : w4.heap.size ≤ q := by omega
        have hqb : q ≤ w4.heap.size := by omega
        clear hw5
        have hs4 := kp4.size
        have hpl := hd4.lt
        have hrq : Rdr01 w5 (fun x => x = q ∨ x < wr.heap.size) q zs 0 false := ⟨a0, cap0, by rw [hq]; exact hq5, (HRI.out.keep0 kp4).keep0 k5, fun x hx hne => by have := HRI.out.lt x hx hne; omega, Nat.zero_le _, by rw [← HM.out]; omega, .inl rfl, fun x hx hne => .inr (HRI.out.lt x hx hne)⟩
        have hrd := hd4.keep k5
        obtain ⟨k2, n2, s2, ok, a9, b9, hvp, hvr⟩ := vread_v zs 0 false kd hb
        rw [← hq]
        clear hq
        refine (hvp p w5 w4.heap.size (by omega) hrd).mono ?_
        rintro e w6 ⟨rfl, hrd6, k6⟩
        go_wp2_with fail
        obtain ⟨w7, hw7⟩ : ∃ w7, w7 = w6.alloc (Obj.cells #[Value.int IntKind.u8 k2, Value.int IntKind.i64 n2, Value.string s2] 36) := ⟨_, rfl⟩
        rw [← hw7]
        have HW7 := Lib.hid hw7
        have k7 : Kp [] w6 w7 := by rw [hw7]; exact (Kp.refl [] w6).alloc _
        have h12 : w7.heap[w6.heap.size]? = some (.cells #[.int .u8 k2, .int .i64 n2, .string s2] 36) := by rw [hw7]; exact heap_alloc_at rfl
        have hs7 : w6.heap.size < w7.heap.size := by rw [hw7]; simp
        clear hw7
        have hs6 := k6.size
        have hrq7 := (hrq.keepS k6 (by intro x hx; simp at hx; subst hx; omega)).keep k7
        refine (hvr q w7 _ (fun x hx => by omega) hrq7).mono ?_
        rintro e w8 ⟨rfl, hrq8, k8⟩
        go_wp2_with fail
        obtain ⟨w9, hw9⟩ : ∃ w9, w9 = w8.alloc (Obj.cells #[Value.int IntKind.u8 k2, Value.int IntKind.i64 n2, Value.string s2] 36) := ⟨_, rfl⟩
        rw [← hw9]
        have k9 : Kp [] w8 w9 := by rw [hw9]; exact (Kp.refl [] w8).alloc _
        have h14 : w9.heap[w8.heap.size]? = some (.cells #[.int .u8 k2, .int .i64 n2, .string s2] 36) := by rw [hw9]; exact heap_alloc_at rfl
        have H14 := Lib.hid (cells3 h14)
        have H12 := Lib.hid (cells3 ((k9.get (k8.get h12 (by simp; omega)) (by simp))))
        have HRD := Lib.hid (((hrd6.keep k7).keepS k8 (by intro x hx; simp at hx; omega)).keep k9)
        have HRQ := Lib.hid (hrq8.keep k9)
        have kA : Kp [] wr w9 := (((kp4.tr k5).trans k6 (U := []) (by simp) (fun x hx => .inr (by simp at hx; omega))).tr k7 |>.trans k8 (U := []) (by simp) (fun x hx => .inr (by simp at hx; omega))).tr k9
        have HOI9 := Lib.hid (HOI.out.keep0 kA)
        have HRI9 := Lib.hid (HRI.out.keep0 kA)
        have HKA := Lib.hid (HKK.out.tr kA)
        obtain ⟨b12, hb12⟩ : ∃ b12, b12 = w6.heap.size := ⟨_, rfl⟩
        obtain ⟨b14, hb14⟩ : ∃ b14, b14 = w8.heap.size := ⟨_, rfl⟩
        rw [← hb12] at H12 ⊢
        rw [← hb14] at H14 ⊢
        clear kA k5 k6 k7 k8 k9 hrq hrd hrq7 hrq8 hrd6 h12 h14 hq5 hd4 kp4 hvp hvr HW5 HW7 hw9 hs4 hs5 hs6 hs7 hpl hp hb12 hb14 hqa hqb
        cases ok with
        | true =>
          refine wp_region_K (by kernel_rfl) [.val (.agg #[.int .u8 k2, .int .i64 n2, .string s2]), .val (.agg #[.int .u8 k2, .int .i64 n2, .string s2]), .val (.bool true), .val (.bool true), .val (.bool true), .val (.bool true), .val (.bool true), .val (.bool true), .val (.bool true), .val (.bool true), .val (.bool false), .val (.bool false), .val (.pointer (some ⟨p, 0, none⟩)), .val (.int .i64 (a9 : Int)), .val (.pointer (some ⟨q, 0, none⟩)), .val (.pointer (some ⟨q, 0, none⟩)), .val (.pointer (some ⟨q, 1, none⟩)), .val (.int .i64 (a9 : Int)), .val (.bool true), .val (.bool true), .val (.bool true), .val (.bool true), .val (.slice ad1 m cap1), .val (.string (strOfNums zs)), .val (.slice a0 m cap0), .val (.string (strOfNums zs)), .val (.bool true), .val (.bool true), .val (.bool true), .val (.bool true), .val (.bool true), .val (.bool true)] [[(12, none)], [(14, none)], [(80, some 0), (81, some 1)], [(82, some 2)], [(83, some 3), (13, none)], [(83, some 3), (15, none)], [(83, some 3), (84, some 4), (85, some 5)], [(83, some 3), (86, some 6)], [(87, some 7)], [(88, some 8), (13, none)], [(88, some 8), (89, some 9)], [(88, some 8), (90, some 10)], [(91, some 11), (10, none)], [(91, some 11), (92, some 12)], [(91, some 11), (11, none)], [(91, some 11), (94, some 14)], [(91, some 11), (95, some 15)], [(91, some 11), (96, some 16)], [(91, some 11), (93, some 13), (97, some 17)], [(88, some 8), (91, some 11), (98, some 18)], [(88, some 8), (99, some 19)], [(100, some 20)], [(101, some 21), (7, none)], [(101, some 21), (102, some 22)], [(101, some 21), (1, none)], [(101, some 21), (104, some 24)], [(101, some 21), (103, some 23), (105, some 25)], [(101, some 21), (106, some 26)], [(107, some 27)], [(108, some 28)], [(108, some 28), (109, some 29)], [(110, some 30)]] rfl (by kernel_rfl) ?_ ?_
          · refine ⟨?o0, ?o1, ?o2, ?o3, ?o4, ?o5, ?o6, ?o7, ?o8, ?o9, ?o10, ?o11, ?o12, ?o13, ?o14, ?o15, ?o16, ?o17, ?o18, ?o19, ?o20, ?o21, ?o22, ?o23, ?o24, ?o25, ?o26, ?o27, ?o28, ?o29, ?o30, ?o31, trivial⟩
            case o0 => intro aR wR hR; replace hR := hR.undrew; intro (h12 : aR.tmps[12]? = some (.pointer (some ⟨b12, 0, none⟩))); (have c0 := hR.cell H12.out.1 (by simp); have c1 := hR.cell H12.out.2.1 (by simp); have c2 := hR.cell H12.out.2.2 (by simp)); exact exec_val (c := .agg #[.int .u8 k2, .int .i64 n2, .string s2]) (wanted_none rfl) (by go_simp) rfl
            case o1 => intro aR wR hR; replace hR := hR.undrew; intro (h14 : aR.tmps[14]? = some (.pointer (some ⟨b14, 0, none⟩))); (have c0 := hR.cell H14.out.1 (by simp); have c1 := hR.cell H14.out.2.1 (by simp); have c2 := hR.cell H14.out.2.2 (by simp)); exact exec_val (c := .agg #[.int .u8 k2, .int .i64 n2, .string s2]) (wanted_none rfl) (by go_simp) rfl
            case o2 => intro aR wR hR; replace hR := hR.undrew; intro v80 h80 e80; replace e80 : v80 = .agg #[.int .u8 k2, .int .i64 n2, .string s2] := e80; subst e80; intro v81 h81 e81; replace e81 : v81 = .agg #[.int .u8 k2, .int .i64 n2, .string s2] := e81; subst e81; exact exec_val (c := .bool true) (wanted_none rfl) (by go_simp) rfl
            case o3 => intro aR wR hR; replace hR := hR.undrew; intro v82 h82 e82; replace e82 : v82 = .bool true := e82; subst e82; exact exec_val (c := .bool true) (wanted_none rfl) (by go_simp) rfl
            case o4 => intro aR wR hR; replace hR := hR.undrew; intro v83 h83 e83; replace e83 : v83 = .bool true := e83; subst e83; intro (h13 : aR.tmps[13]? = some (.bool true)); exact exec_val (c := .bool true) (wanted_yes (b := true) (t := 83) rfl rfl h83) (by go_simp) rfl
            case o5 => intro aR wR hR; replace hR := hR.undrew; intro v83 h83 e83; replace e83 : v83 = .bool true := e83; subst e83; intro (h15 : aR.tmps[15]? = some (.bool true)); exact exec_val (c := .bool true) (wanted_yes (b := true) (t := 83) rfl rfl h83) (by go_simp) rfl
            case o6 => intro aR wR hR; replace hR := hR.undrew; intro v83 h83 e83; replace e83 : v83 = .bool true := e83; subst e83; intro v84 h84 e84; replace e84 : v84 = .bool true := e84; subst e84; intro v85 h85 e85; replace e85 : v85 = .bool true := e85; subst e85; exact exec_val (c := .bool true) (wanted_yes (b := true) (t := 83) rfl rfl h83) (by go_simp) rfl
            case o7 => intro aR wR hR; replace hR := hR.undrew; intro v83 h83 e83; replace e83 : v83 = .bool true := e83; subst e83; intro v86 h86 e86; replace e86 : v86 = .bool true := e86; subst e86; exact exec_val (c := .bool true) (wanted_none rfl) (by go_simp) rfl
            case o8 => intro aR wR hR; replace hR := hR.undrew; intro v87 h87 e87; replace e87 : v87 = .bool true := e87; subst e87; exact exec_val (c := .bool true) (wanted_none rfl) (by go_simp) rfl
            case o9 => intro aR wR hR; replace hR := hR.undrew; intro v88 h88 e88; replace e88 : v88 = .bool true := e88; subst e88; intro (h13 : aR.tmps[13]? = some (.bool true)); exact exec_val (c := .bool true) (wanted_yes (b := true) (t := 88) rfl rfl h88) (by go_simp) rfl
            case o10 => intro aR wR hR; replace hR := hR.undrew; intro v88 h88 e88; replace e88 : v88 = .bool true := e88; subst e88; intro v89 h89 e89; replace e89 : v89 = .bool true := e89; subst e89; exact exec_val (c := .bool false) (wanted_yes (b := true) (t := 88) rfl rfl h88) (by go_simp) rfl
            case o11 => intro aR wR hR; replace hR := hR.undrew; intro v88 h88 e88; replace e88 : v88 = .bool true := e88; subst e88; intro v90 h90 e90; replace e90 : v90 = .bool false := e90; subst e90; exact exec_val (c := .bool false) (wanted_yes (b := true) (t := 88) rfl rfl h88) (by go_simp) rfl
            case o12 => intro aR wR hR; replace hR := hR.undrew; intro v91 h91 e91; replace e91 : v91 = .bool false := e91; subst e91; intro (h10 : aR.tmps[10]? = some (.pointer (some ⟨p, 0, none⟩))); exact exec_val (c := .pointer (some ⟨p, 0, none⟩)) (wanted_yes (b := false) (t := 91) rfl rfl h91) (by go_simp) rfl
            case o13 => intro aR wR hR; replace hR := hR.undrew; intro v91 h91 e91; replace e91 : v91 = .bool false := e91; subst e91; intro v92 h92 e92; replace e92 : v92 = .pointer (some ⟨p, 0, none⟩) := e92; subst e92; refine exec_call (wanted_yes (b := false) (t := 91) rfl rfl h91) (by go_simp; exact ⟨rfl, rfl⟩) ?_; refine (cat_any p zs a9 b9 _ (HRD.out.keep hR)).mono ?_; rintro e w7 ⟨rfl, rfl⟩; exact ⟨_, rfl, rfl, Kp.refl _ _⟩
            case o14 => intro aR wR hR; replace hR := hR.undrew; intro v91 h91 e91; replace e91 : v91 = .bool false := e91; subst e91; intro (h11 : aR.tmps[11]? = some (.pointer (some ⟨q, 0, none⟩))); exact exec_val (c := .pointer (some ⟨q, 0, none⟩)) (wanted_yes (b := false) (t := 91) rfl rfl h91) (by go_simp) rfl
            case o15 => intro aR wR hR; replace hR := hR.undrew; intro v91 h91 e91; replace e91 : v91 = .bool false := e91; subst e91; intro v94 h94 e94; replace e94 : v94 = .pointer (some ⟨q, 0, none⟩) := e94; subst e94; exact exec_val (c := .pointer (some ⟨q, 0, none⟩)) (wanted_yes (b := false) (t := 91) rfl rfl h91) (by go_simp) rfl
            case o16 => intro aR wR hR; replace hR := hR.undrew; intro v91 h91 e91; replace e91 : v91 = .bool false := e91; subst e91; intro v95 h95 e95; replace e95 : v95 = .pointer (some ⟨q, 0, none⟩) := e95; subst e95; exact exec_val (c := .pointer (some ⟨q, 1, none⟩)) (wanted_yes (b := false) (t := 91) rfl rfl h91) (by go_simp) rfl
            case o17 => intro aR wR hR; replace hR := hR.undrew; intro v91 h91 e91; replace e91 : v91 = .bool false := e91; subst e91; intro v96 h96 e96; replace e96 : v96 = .pointer (some ⟨q, 1, none⟩) := e96; subst e96; (have hc := (HRQ.out.keep hR).c2.1); exact exec_val (c := .int .i64 (a9 : Int)) (wanted_yes (b := false) (t := 91) rfl rfl h91) (by go_simp) rfl
            case o18 => intro aR wR hR; replace hR := hR.undrew; intro v91 h91 e91; replace e91 : v91 = .bool false := e91; subst e91; intro v93 h93 e93; replace e93 : v93 = .int .i64 (a9 : Int) := e93; subst e93; intro v97 h97 e97; replace e97 : v97 = .int .i64 (a9 : Int) := e97; subst e97; exact exec_val (c := .bool true) (wanted_yes (b := false) (t := 91) rfl rfl h91) (by go_simp) rfl
            case o19 => intro aR wR hR; replace hR := hR.undrew; intro v88 h88 e88; replace e88 : v88 = .bool true := e88; subst e88; intro v91 h91 e91; replace e91 : v91 = .bool false := e91; subst e91; intro v98 h98 e98; replace e98 : v98 = .bool true := e98; subst e98; exact exec_val (c := .bool true) (wanted_yes (b := true) (t := 88) rfl rfl h88) (by go_simp) rfl
            case o20 => intro aR wR hR; replace hR := hR.undrew; intro v88 h88 e88; replace e88 : v88 = .bool true := e88; subst e88; intro v99 h99 e99; replace e99 : v99 = .bool true := e99; subst e99; exact exec_val (c := .bool true) (wanted_none rfl) (by go_simp) rfl
            case o21 => intro aR wR hR; replace hR := hR.undrew; intro v100 h100 e100; replace e100 : v100 = .bool true := e100; subst e100; exact exec_val (c := .bool true) (wanted_none rfl) (by go_simp) rfl
            case o22 => intro aR wR hR; replace hR := hR.undrew; intro v101 h101 e101; replace e101 : v101 = .bool true := e101; subst e101; intro (h7 : aR.tmps[7]? = some (.slice ad1 m cap1)); exact exec_val (c := .slice ad1 m cap1) (wanted_yes (b := true) (t := 101) rfl rfl h101) (by go_simp) rfl
            case o23 => intro aR wR hR; replace hR := hR.undrew; intro v101 h101 e101; replace e101 : v101 = .bool true := e101; subst e101; intro v102 h102 e102; replace e102 : v102 = .slice ad1 m cap1 := e102; subst e102; (have hcv := cvs wR ad1 cap1 m zs (HOI9.out.rd.keep0 hR) HM.out); exact exec_val (c := .string (strOfNums zs)) (wanted_yes (b := true) (t := 101) rfl rfl h101) (by go_simp) rfl
            case o24 => intro aR wR hR; replace hR := hR.undrew; intro v101 h101 e101; replace e101 : v101 = .bool true := e101; subst e101; intro (h1 : aR.tmps[1]? = some (.slice a0 m cap0)); exact exec_val (c := .slice a0 m cap0) (wanted_yes (b := true) (t := 101) rfl rfl h101) (by go_simp) rfl
            case o25 => intro aR wR hR; replace hR := hR.undrew; intro v101 h101 e101; replace e101 : v101 = .bool true := e101; subst e101; intro v104 h104 e104; replace e104 : v104 = .slice a0 m cap0 := e104; subst e104; (have hcv := cvs wR a0 cap0 m zs (HRI9.out.keep0 hR) HM.out); exact exec_val (c := .string (strOfNums zs)) (wanted_yes (b := true) (t := 101) rfl rfl h101) (by go_simp) rfl
            case o26 => intro aR wR hR; replace hR := hR.undrew; intro v101 h101 e101; replace e101 : v101 = .bool true := e101; subst e101; intro v103 h103 e103; replace e103 : v103 = .string (strOfNums zs) := e103; subst e103; intro v105 h105 e105; replace e105 : v105 = .string (strOfNums zs) := e105; subst e105; exact exec_val (c := .bool true) (wanted_yes (b := true) (t := 101) rfl rfl h101) (by go_simp) rfl
            case o27 => intro aR wR hR; replace hR := hR.undrew; intro v101 h101 e101; replace e101 : v101 = .bool true := e101; subst e101; intro v106 h106 e106; replace e106 : v106 = .bool true := e106; subst e106; exact exec_val (c := .bool true) (wanted_none rfl) (by go_simp) rfl
            case o28 => intro aR wR hR; replace hR := hR.undrew; intro v107 h107 e107; replace e107 : v107 = .bool true := e107; subst e107; exact exec_val (c := .bool true) (wanted_none rfl) (by go_simp) rfl
            case o29 => intro aR wR hR; replace hR := hR.undrew; intro v108 h108 e108; replace e108 : v108 = .bool true := e108; subst e108; refine exec_call (wanted_yes (b := true) (t := 108) rfl rfl h108) (by go_simp; exact ⟨rfl, rfl⟩) ?_; refine (known10_any _).mono ?_; rintro e w7 ⟨rfl, kp7⟩; exact ⟨_, rfl, rfl, kp7⟩
            case o30 => intro aR wR hR; replace hR := hR.undrew; intro v108 h108 e108; replace e108 : v108 = .bool true := e108; subst e108; intro v109 h109 e109; replace e109 : v109 = .bool true := e109; subst e109; exact exec_val (c := .bool true) (wanted_none rfl) (by go_simp) rfl
            case o31 => intro aR wR hR; replace hR := hR.undrew; intro v110 h110 e110; replace e110 : v110 = .bool true := e110; subst e110; exact exec_val (c := .bool true) (wanted_none rfl) (by go_simp) rfl
          · intro vs wR hR hV
            obtain ⟨e0, e1, e2, e3, e4, e5, e6, e7, e8, e9, e10, e11, e12, e13, e14, e15, e16, e17, e18, e19, e20, e21, e22, e23, e24, e25, e26, e27, e28, e29, e30, e31, -⟩ := hV
            replace e0 : vs 0 = .agg #[.int .u8 k2, .int .i64 n2, .string s2] := e0
            replace e1 : vs 1 = .agg #[.int .u8 k2, .int .i64 n2, .string s2] := e1
            replace e2 : vs 2 = .bool true := e2
            replace e3 : vs 3 = .bool true := e3
            replace e4 : vs 4 = .bool true := e4
            replace e5 : vs 5 = .bool true := e5
            replace e6 : vs 6 = .bool true := e6
            replace e7 : vs 7 = .bool true := e7
            replace e8 : vs 8 = .bool true := e8
            replace e9 : vs 9 = .bool true := e9
            replace e10 : vs 10 = .bool false := e10
            replace e11 : vs 11 = .bool false := e11
            replace e12 : vs 12 = .pointer (some ⟨p, 0, none⟩) := e12
            replace e13 : vs 13 = .int .i64 (a9 : Int) := e13
            replace e14 : vs 14 = .pointer (some ⟨q, 0, none⟩) := e14
            replace e15 : vs 15 = .pointer (some ⟨q, 0, none⟩) := e15
            replace e16 : vs 16 = .pointer (some ⟨q, 1, none⟩) := e16
            replace e17 : vs 17 = .int .i64 (a9 : Int) := e17
            replace e18 : vs 18 = .bool true := e18
            replace e19 : vs 19 = .bool true := e19
            replace e20 : vs 20 = .bool true := e20
            replace e21 : vs 21 = .bool true := e21
            replace e22 : vs 22 = .slice ad1 m cap1 := e22
            replace e23 : vs 23 = .string (strOfNums zs) := e23
            replace e24 : vs 24 = .slice a0 m cap0 := e24
            replace e25 : vs 25 = .string (strOfNums zs) := e25
            replace e26 : vs 26 = .bool true := e26
            replace e27 : vs 27 = .bool true := e27
            replace e28 : vs 28 = .bool true := e28
            replace e29 : vs 29 = .bool true := e29
            replace e30 : vs 30 = .bool true := e30
            replace e31 : vs 31 = .bool true := e31
            simp only [putAll, e0, e1, e2, e3, e4, e5, e6, e7, e8, e9, e10, e11, e12, e13, e14, e15, e16, e17, e18, e19, e20, e21, e22, e23, e24, e25, e26, e27, e28, e29, e30, e31, Nat.reduceAdd, Nat.zero_add]
            clear e0 e1 e2 e3 e4 e5 e6 e7 e8 e9 e10 e11 e12 e13 e14 e15 e16 e17 e18 e19 e20 e21 e22 e23 e24 e25 e26 e27 e28 e29 e30 e31
            try simp only [List.setIfInBounds_toArray, List.set_cons_succ, List.set_cons_zero]
            go_wp2_with fail
            go_ret
            exact ⟨rfl, HKA.out.tr hR⟩
        | false =>
          refine wp_region_K (by kernel_rfl) [.val (.agg #[.int .u8 k2, .int .i64 n2, .string s2]), .val (.agg #[.int .u8 k2, .int .i64 n2, .string s2]), .val (.bool true), .val (.bool true), .val (.bool false), .val (.bool false), .val (.bool true), .val (.bool true), .val (.bool true), .val (.bool false), .val (.bool true), .val (.bool true), .val (undef), .val (undef), .val (undef), .val (undef), .val (undef), .val (undef), .val (undef), .val ((.bool true)), .val ((.bool true)), .val ((.bool true)), .val (.slice ad1 m cap1), .val (.string (strOfNums zs)), .val (.slice a0 m cap0), .val (.string (strOfNums zs)), .val (.bool true), .val (.bool true), .val (.bool true), .val (.bool true), .val (.bool true), .val (.bool true)] [[(12, none)], [(14, none)], [(80, some 0), (81, some 1)], [(82, some 2)], [(83, some 3), (13, none)], [(83, some 3), (15, none)], [(83, some 3), (84, some 4), (85, some 5)], [(83, some 3), (86, some 6)], [(87, some 7)], [(88, some 8), (13, none)], [(88, some 8), (89, some 9)], [(88, some 8), (90, some 10)], [(91, some 11)], [(91, some 11)], [(91, some 11)], [(91, some 11)], [(91, some 11)], [(91, some 11)], [(91, some 11)], [(88, some 8), (91, some 11), (98, some 18)], [(88, some 8), (99, some 19)], [(100, some 20)], [(101, some 21), (7, none)], [(101, some 21), (102, some 22)], [(101, some 21), (1, none)], [(101, some 21), (104, some 24)], [(101, some 21), (103, some 23), (105, some 25)], [(101, some 21), (106, some 26)], [(107, some 27)], [(108, some 28)], [(108, some 28), (109, some 29)], [(110, some 30)]] rfl (by kernel_rfl) ?_ ?_
          · refine ⟨?o0, ?o1, ?o2, ?o3, ?o4, ?o5, ?o6, ?o7, ?o8, ?o9, ?o10, ?o11, ?o12, ?o13, ?o14, ?o15, ?o16, ?o17, ?o18, ?o19, ?o20, ?o21, ?o22, ?o23, ?o24, ?o25, ?o26, ?o27, ?o28, ?o29, ?o30, ?o31, trivial⟩
            case o0 => intro aR wR hR; replace hR := hR.undrew; intro (h12 : aR.tmps[12]? = some (.pointer (some ⟨b12, 0, none⟩))); (have c0 := hR.cell H12.out.1 (by simp); have c1 := hR.cell H12.out.2.1 (by simp); have c2 := hR.cell H12.out.2.2 (by simp)); exact exec_val (c := .agg #[.int .u8 k2, .int .i64 n2, .string s2]) (wanted_none rfl) (by go_simp) rfl
            case o1 => intro aR wR hR; replace hR := hR.undrew; intro (h14 : aR.tmps[14]? = some (.pointer (some ⟨b14, 0, none⟩))); (have c0 := hR.cell H14.out.1 (by simp); have c1 := hR.cell H14.out.2.1 (by simp); have c2 := hR.cell H14.out.2.2 (by simp)); exact exec_val (c := .agg #[.int .u8 k2, .int .i64 n2, .string s2]) (wanted_none rfl) (by go_simp) rfl
            case o2 => intro aR wR hR; replace hR := hR.undrew; intro v80 h80 e80; replace e80 : v80 = .agg #[.int .u8 k2, .int .i64 n2, .string s2] := e80; subst e80; intro v81 h81 e81; replace e81 : v81 = .agg #[.int .u8 k2, .int .i64 n2, .string s2] := e81; subst e81; exact exec_val (c := .bool true) (wanted_none rfl) (by go_simp) rfl
            case o3 => intro aR wR hR; replace hR := hR.undrew; intro v82 h82 e82; replace e82 : v82 = .bool true := e82; subst e82; exact exec_val (c := .bool true) (wanted_none rfl) (by go_simp) rfl
            case o4 => intro aR wR hR; replace hR := hR.undrew; intro v83 h83 e83; replace e83 : v83 = .bool true := e83; subst e83; intro (h13 : aR.tmps[13]? = some (.bool false)); exact exec_val (c := .bool false) (wanted_yes (b := true) (t := 83) rfl rfl h83) (by go_simp) rfl
            case o5 => intro aR wR hR; replace hR := hR.undrew; intro v83 h83 e83; replace e83 : v83 = .bool true := e83; subst e83; intro (h15 : aR.tmps[15]? = some (.bool false)); exact exec_val (c := .bool false) (wanted_yes (b := true) (t := 83) rfl rfl h83) (by go_simp) rfl
            case o6 => intro aR wR hR; replace hR := hR.undrew; intro v83 h83 e83; replace e83 : v83 = .bool true := e83; subst e83; intro v84 h84 e84; replace e84 : v84 = .bool false := e84; subst e84; intro v85 h85 e85; replace e85 : v85 = .bool false := e85; subst e85; exact exec_val (c := .bool true) (wanted_yes (b := true) (t := 83) rfl rfl h83) (by go_simp) rfl
            case o7 => intro aR wR hR; replace hR := hR.undrew; intro v83 h83 e83; replace e83 : v83 = .bool true := e83; subst e83; intro v86 h86 e86; replace e86 : v86 = .bool true := e86; subst e86; exact exec_val (c := .bool true) (wanted_none rfl) (by go_simp) rfl
            case o8 => intro aR wR hR; replace hR := hR.undrew; intro v87 h87 e87; replace e87 : v87 = .bool true := e87; subst e87; exact exec_val (c := .bool true) (wanted_none rfl) (by go_simp) rfl
            case o9 => intro aR wR hR; replace hR := hR.undrew; intro v88 h88 e88; replace e88 : v88 = .bool true := e88; subst e88; intro (h13 : aR.tmps[13]? = some (.bool false)); exact exec_val (c := .bool false) (wanted_yes (b := true) (t := 88) rfl rfl h88) (by go_simp) rfl
            case o10 => intro aR wR hR; replace hR := hR.undrew; intro v88 h88 e88; replace e88 : v88 = .bool true := e88; subst e88; intro v89 h89 e89; replace e89 : v89 = .bool false := e89; subst e89; exact exec_val (c := .bool true) (wanted_yes (b := true) (t := 88) rfl rfl h88) (by go_simp) rfl
            case o11 => intro aR wR hR; replace hR := hR.undrew; intro v88 h88 e88; replace e88 : v88 = .bool true := e88; subst e88; intro v90 h90 e90; replace e90 : v90 = .bool true := e90; subst e90; exact exec_val (c := .bool true) (wanted_yes (b := true) (t := 88) rfl rfl h88) (by go_simp) rfl
            case o12 => intro aR wR hR; replace hR := hR.undrew; intro v91 h91 e91; replace e91 : v91 = .bool true := e91; subst e91; exact exec_pass (wanted_not (b := false) (t := 91) rfl rfl h91) rfl
            case o13 => intro aR wR hR; replace hR := hR.undrew; intro v91 h91 e91; replace e91 : v91 = .bool true := e91; subst e91; exact exec_pass (wanted_not (b := false) (t := 91) rfl rfl h91) rfl
            case o14 => intro aR wR hR; replace hR := hR.undrew; intro v91 h91 e91; replace e91 : v91 = .bool true := e91; subst e91; exact exec_pass (wanted_not (b := false) (t := 91) rfl rfl h91) rfl
            case o15 => intro aR wR hR; replace hR := hR.undrew; intro v91 h91 e91; replace e91 : v91 = .bool true := e91; subst e91; exact exec_pass (wanted_not (b := false) (t := 91) rfl rfl h91) rfl
            case o16 => intro aR wR hR; replace hR := hR.undrew; intro v91 h91 e91; replace e91 : v91 = .bool true := e91; subst e91; exact exec_pass (wanted_not (b := false) (t := 91) rfl rfl h91) rfl
            case o17 => intro aR wR hR; replace hR := hR.undrew; intro v91 h91 e91; replace e91 : v91 = .bool true := e91; subst e91; exact exec_pass (wanted_not (b := false) (t := 91) rfl rfl h91) rfl
            case o18 => intro aR wR hR; replace hR := hR.undrew; intro v91 h91 e91; replace e91 : v91 = .bool true := e91; subst e91; exact exec_pass (wanted_not (b := false) (t := 91) rfl rfl h91) rfl
            case o19 => intro aR wR hR; replace hR := hR.undrew; intro v88 h88 e88; replace e88 : v88 = .bool true := e88; subst e88; intro v91 h91 e91; replace e91 : v91 = .bool true := e91; subst e91; intro v98 h98 e98; replace e98 : v98 = undef := e98; subst e98; exact exec_val (c := (.bool true)) (wanted_yes (b := true) (t := 88) rfl rfl h88) (by go_simp) rfl
            case o20 => intro aR wR hR; replace hR := hR.undrew; intro v88 h88 e88; replace e88 : v88 = .bool true := e88; subst e88; intro v99 h99 e99; replace e99 : v99 = (.bool true) := e99; subst e99; exact exec_val (c := (.bool true)) (wanted_none rfl) (by go_simp) rfl
            case o21 => intro aR wR hR; replace hR := hR.undrew; intro v100 h100 e100; replace e100 : v100 = (.bool true) := e100; subst e100; exact exec_val (c := (.bool true)) (wanted_none rfl) (by go_simp) rfl
            case o22 => intro aR wR hR; replace hR := hR.undrew; intro v101 h101 e101; replace e101 : v101 = (.bool true) := e101; subst e101; intro (h7 : aR.tmps[7]? = some (.slice ad1 m cap1)); exact exec_val (c := .slice ad1 m cap1) (wanted_yes (b := true) (t := 101) rfl rfl h101) (by go_simp) rfl
            case o23 => intro aR wR hR; replace hR := hR.undrew; intro v101 h101 e101; replace e101 : v101 = (.bool true) := e101; subst e101; intro v102 h102 e102; replace e102 : v102 = .slice ad1 m cap1 := e102; subst e102; (have hcv := cvs wR ad1 cap1 m zs (HOI9.out.rd.keep0 hR) HM.out); exact exec_val (c := .string (strOfNums zs)) (wanted_yes (b := true) (t := 101) rfl rfl h101) (by go_simp) rfl
            case o24 => intro aR wR hR; replace hR := hR.undrew; intro v101 h101 e101; replace e101 : v101 = (.bool true) := e101; subst e101; intro (h1 : aR.tmps[1]? = some (.slice a0 m cap0)); exact exec_val (c := .slice a0 m cap0) (wanted_yes (b := true) (t := 101) rfl rfl h101) (by go_simp) rfl
            case o25 => intro aR wR hR; replace hR := hR.undrew; intro v101 h101 e101; replace e101 : v101 = (.bool true) := e101; subst e101; intro v104 h104 e104; replace e104 : v104 = .slice a0 m cap0 := e104; subst e104; (have hcv := cvs wR a0 cap0 m zs (HRI9.out.keep0 hR) HM.out); exact exec_val (c := .string (strOfNums zs)) (wanted_yes (b := true) (t := 101) rfl rfl h101) (by go_simp) rfl
            case o26 => intro aR wR hR; replace hR := hR.undrew; intro v101 h101 e101; replace e101 : v101 = (.bool true) := e101; subst e101; intro v103 h103 e103; replace e103 : v103 = .string (strOfNums zs) := e103; subst e103; intro v105 h105 e105; replace e105 : v105 = .string (strOfNums zs) := e105; subst e105; exact exec_val (c := .bool true) (wanted_yes (b := true) (t := 101) rfl rfl h101) (by go_simp) rfl
            case o27 => intro aR wR hR; replace hR := hR.undrew; intro v101 h101 e101; replace e101 : v101 = (.bool true) := e101; subst e101; intro v106 h106 e106; replace e106 : v106 = .bool true := e106; subst e106; exact exec_val (c := .bool true) (wanted_none rfl) (by go_simp) rfl
            case o28 => intro aR wR hR; replace hR := hR.undrew; intro v107 h107 e107; replace e107 : v107 = .bool true := e107; subst e107; exact exec_val (c := .bool true) (wanted_none rfl) (by go_simp) rfl
            case o29 => intro aR wR hR; replace hR := hR.undrew; intro v108 h108 e108; replace e108 : v108 = .bool true := e108; subst e108; refine exec_call (wanted_yes (b := true) (t := 108) rfl rfl h108) (by go_simp; exact ⟨rfl, rfl⟩) ?_; refine (known10_any _).mono ?_; rintro e w7 ⟨rfl, kp7⟩; exact ⟨_, rfl, rfl, kp7⟩
            case o30 => intro aR wR hR; replace hR := hR.undrew; intro v108 h108 e108; replace e108 : v108 = .bool true := e108; subst e108; intro v109 h109 e109; replace e109 : v109 = .bool true := e109; subst e109; exact exec_val (c := .bool true) (wanted_none rfl) (by go_simp) rfl
            case o31 => intro aR wR hR; replace hR := hR.undrew; intro v110 h110 e110; replace e110 : v110 = .bool true := e110; subst e110; exact exec_val (c := .bool true) (wanted_none rfl) (by go_simp) rfl
          · intro vs wR hR hV
            obtain ⟨e0, e1, e2, e3, e4, e5, e6, e7, e8, e9, e10, e11, e12, e13, e14, e15, e16, e17, e18, e19, e20, e21, e22, e23, e24, e25, e26, e27, e28, e29, e30, e31, -⟩ := hV
            replace e0 : vs 0 = .agg #[.int .u8 k2, .int .i64 n2, .string s2] := e0
            replace e1 : vs 1 = .agg #[.int .u8 k2, .int .i64 n2, .string s2] := e1
            replace e2 : vs 2 = .bool true := e2
            replace e3 : vs 3 = .bool true := e3
            replace e4 : vs 4 = .bool false := e4
            replace e5 : vs 5 = .bool false := e5
            replace e6 : vs 6 = .bool true := e6
            replace e7 : vs 7 = .bool true := e7
            replace e8 : vs 8 = .bool true := e8
            replace e9 : vs 9 = .bool false := e9
            replace e10 : vs 10 = .bool true := e10
            replace e11 : vs 11 = .bool true := e11
            replace e12 : vs 12 = undef := e12
            replace e13 : vs 13 = undef := e13
            replace e14 : vs 14 = undef := e14
            replace e15 : vs 15 = undef := e15
            replace e16 : vs 16 = undef := e16
            replace e17 : vs 17 = undef := e17
            replace e18 : vs 18 = undef := e18
            replace e19 : vs 19 = (.bool true) := e19
            replace e20 : vs 20 = (.bool true) := e20
            replace e21 : vs 21 = (.bool true) := e21
            replace e22 : vs 22 = .slice ad1 m cap1 := e22
            replace e23 : vs 23 = .string (strOfNums zs) := e23
            replace e24 : vs 24 = .slice a0 m cap0 := e24
            replace e25 : vs 25 = .string (strOfNums zs) := e25
            replace e26 : vs 26 = .bool true := e26
            replace e27 : vs 27 = .bool true := e27
            replace e28 : vs 28 = .bool true := e28
            replace e29 : vs 29 = .bool true := e29
            replace e30 : vs 30 = .bool true := e30
            replace e31 : vs 31 = .bool true := e31
            simp only [putAll, e0, e1, e2, e3, e4, e5, e6, e7, e8, e9, e10, e11, e12, e13, e14, e15, e16, e17, e18, e19, e20, e21, e22, e23, e24, e25, e26, e27, e28, e29, e30, e31, Nat.reduceAdd, Nat.zero_add]
            clear e0 e1 e2 e3 e4 e5 e6 e7 e8 e9 e10 e11 e12 e13 e14 e15 e16 e17 e18 e19 e20 e21 e22 e23 e24 e25 e26 e27 e28 e29 e30 e31
            try simp only [List.setIfInBounds_toArray, List.set_cons_succ, List.set_cons_zero]
            go_wp2_with fail
            go_ret
            exact ⟨rfl, HKA.out.tr hR⟩
end Go.Proofs.Ytlcilinobdjlaaa
