/-
  The walk of CursorBack.
-/
import Derived.Test.YtanodmjolphpfaaOnly01
import Derived.Test.YtanodmjolphpfaaRegionG
import Derived.Test.YtanodmjolphpfaaListL
namespace Go.Proofs.Ytanodmjolphpfaa
open Go.RowKit
set_option linter.unusedSimpArgs false
set_option linter.unusedVariables false

theorem stands_mid (p r : List Int) (i n : Nat) (hi : i = p.length) (hn : n < 18446744073709551616) : Stands (p ++ (short n ++ r)) i n :=
  ⟨hn, by simp; omega, sub_mid p (short n) r i _ hi rfl⟩

theorem back_law (a c d e lx se sx : Nat) (x more B : List Int) (hlx : lx = x.length) (hB : B = le a 2 ++ (le c 4 ++ (le d 8 ++ (short e ++ (short lx ++ (x ++ more)))))) (ha : a ≤ 65535) (hc : c ≤ 4294967295) (hd : d < 18446744073709551616) (he : e < 18446744073709551616) (hx : lx ≤ 1000)
    (hse : se = (short e).length) (hsx : sx = (short lx).length) :
    leN (sub B 0 (0 + 2)) = a ∧ leN (sub B 2 (2 + 4)) = c ∧ leN (sub B 6 (6 + 8)) = d ∧ Stands B 14 e ∧ Stands B (14 + se) lx ∧ sub B (14 + se + sx) (14 + se + sx + lx) = x ∧ B.length = 14 + se + sx + lx + more.length := by
  refine ⟨?_, ?_, ?_, ?_, ?_, ?_, ?_⟩
  · rw [hB, show le a 2 ++ (le c 4 ++ (le d 8 ++ (short e ++ (short lx ++ (x ++ more))))) = [] ++ (le a 2 ++ (le c 4 ++ (le d 8 ++ (short e ++ (short lx ++ (x ++ more)))))) from rfl, sub_mid [] _ _ 0 _ rfl (by rw [le_length]), leN_le 2 a (by omega)]
  · rw [hB, sub_mid _ _ _ 2 _ (by rw [le_length]) (by rw [le_length]), leN_le 4 c (by omega)]
  · rw [hB, ← List.append_assoc (le a 2), sub_mid _ _ _ 6 _ (by simp [le_length]) (by rw [le_length]), leN_le 8 d (Nat.lt_of_lt_of_le hd (by decide))]
  · rw [hB, ← List.append_assoc (le a 2), ← List.append_assoc (le a 2 ++ le c 4)]
    exact stands_mid _ _ _ _ (by simp [le_length]) he
  · rw [hB, ← List.append_assoc (le a 2), ← List.append_assoc (le a 2 ++ le c 4), ← List.append_assoc (le a 2 ++ le c 4 ++ le d 8)]
    exact stands_mid _ _ _ _ (by simp [le_length, hse]; omega) (by omega)
  · rw [hB, ← List.append_assoc (le a 2), ← List.append_assoc (le a 2 ++ le c 4), ← List.append_assoc (le a 2 ++ le c 4 ++ le d 8), ← List.append_assoc (le a 2 ++ le c 4 ++ le d 8 ++ short e)]
    exact sub_mid _ _ _ _ _ (by simp [le_length, hse, hsx]; omega) (by rw [hlx])
  · rw [hB]; simp [le_length, hse, hsx, hlx]; omega

section
variable {L : Nat}
theorem cu16_yes (p : Nat) (bs : List Int) (i v : Nat) (w : World) (h : Rdr w L p bs i false) (hb : Bytes8 bs) (hl : i + 2 ≤ bs.length) (hv : leN (sub bs i (i + 2)) = v) :
    Calls Try.prog 37 #[.pointer (some ⟨p, 0, none⟩)] w fun e w' => e = .returned (.int .u16 (v : Int)) ∧ Rdr w' L p bs (i + 2) false ∧ Kp [p] w w' := by
  have hu := cu16_any p bs i false w h hb
  obtain ⟨q1, q2, q3⟩ := rd_yes hl
  rw [q1, q2, q3, hv] at hu
  exact hu
theorem cu32_yes (p : Nat) (bs : List Int) (i v : Nat) (w : World) (h : Rdr w L p bs i false) (hb : Bytes8 bs) (hl : i + 4 ≤ bs.length) (hv : leN (sub bs i (i + 4)) = v) :
    Calls Try.prog 38 #[.pointer (some ⟨p, 0, none⟩)] w fun e w' => e = .returned (.int .u32 (v : Int)) ∧ Rdr w' L p bs (i + 4) false ∧ Kp [p] w w' := by
  have hu := cu32_any p bs i false w h hb
  obtain ⟨q1, q2, q3⟩ := rd_yes hl
  rw [q1, q2, q3, hv] at hu
  exact hu
theorem cu64_yes (p : Nat) (bs : List Int) (i v : Nat) (w : World) (h : Rdr w L p bs i false) (hb : Bytes8 bs) (hl : i + 8 ≤ bs.length) (hv : leN (sub bs i (i + 8)) = v) :
    Calls Try.prog 39 #[.pointer (some ⟨p, 0, none⟩)] w fun e w' => e = .returned (.int .u64 (v : Int)) ∧ Rdr w' L p bs (i + 8) false ∧ Kp [p] w w' := by
  have hu := cu64_any p bs i false w h hb
  obtain ⟨q1, q2, q3⟩ := rd_yes hl
  rw [q1, q2, q3, hv] at hu
  exact hu
theorem cbytes_yes (p : Nat) (bs : List Int) (i n : Nat) (x : List Int) (w : World) (h : Rdr w L p bs i false) (hl : i + n ≤ bs.length) (hx : sub bs i (i + n) = x) (hn : n = x.length) :
    Calls Try.prog 41 #[.pointer (some ⟨p, 0, none⟩), .int .i64 n] w fun e w' => ∃ ad cap, e = .returned (.slice ad n cap) ∧ Own w' w.heap.size 5 .u8 ad cap x ∧ Rdr w' L p bs (i + n) false ∧ Kp [p] w w' := by
  have hu := cbytes_any p bs i false n w h
  obtain ⟨q1, q2, q3⟩ := rdS_yes hl
  rw [q1, q2, q3, hx, ← hn] at hu
  exact hu
end

def bkpos (se sx lx : Nat) : Nat → Nat
  | 0 => 0
  | 1 => 2
  | 2 => 6
  | 3 => 14
  | 4 => 14 + se
  | 5 => 14 + se + sx
  | _ => 14 + se + sx + lx

set_option maxRecDepth 100000 in
set_option maxHeartbeats 3000000 in
theorem backC_walk (a c d e : Nat) (a4 a5 : Option Addr) (cap4 cap5 : Nat) (x more : List Int) (w : World) (ha : a ≤ 65535) (hc : c ≤ 4294967295) (hd : d < 18446744073709551616) (he : e < 18446744073709551616)
    (r4 : Rd w .u8 a4 cap4 x) (r5 : Rd w .u8 a5 cap5 more) (b4 : Bytes8 x) (b5 : Bytes8 more) (hlt : ∀ y, a4 = some y → x ≠ [] → y.block < w.heap.size) :
    Calls Try.prog 10 #[.int .u16 (a : Int), .int .u32 (c : Int), .int .u64 (d : Int), .int .u64 (e : Int), .slice a4 x.length cap4, .slice a5 more.length cap5] w fun e w' => e = .returned (.bool true) ∧ Kp [] w w' := by
  obtain ⟨lx, hlx⟩ : ∃ lx, lx = x.length := ⟨_, rfl⟩
  obtain ⟨lm, hlm⟩ : ∃ lm, lm = more.length := ⟨_, rfl⟩
  rw [← hlx, ← hlm]
  have HX := Lib.hid hlx
  have HM := Lib.hid hlm
  have H4 := Lib.hid r4
  have H5 := Lib.hid r5
  have HLT := Lib.hid hlt
  have HD := Lib.hid hd
  have HE := Lib.hid he
  clear r4 r5 hlt hd he hlx hlm
  by_cases h1 : 1000 < lx
  · clear b4 b5
    go_enter Try.func10, Try.ntmps10
    go_wp2_with (go_at_call 23; refine (known01 _).mono ?_; rintro e w' ⟨rfl, kp⟩)
    go_ret
    exact ⟨rfl, kp⟩
  by_cases h2 : 1000 < lm
  · clear b4 b5
    go_enter Try.func10, Try.ntmps10
    go_wp2_with (go_at_call 23; refine (known01 _).mono ?_; rintro e w' ⟨rfl, kp⟩)
    go_ret
    exact ⟨rfl, kp⟩
  obtain ⟨se, hse⟩ : ∃ se, se = (short e).length := ⟨_, rfl⟩
  obtain ⟨sx, hsx⟩ : ∃ sx, sx = (short lx).length := ⟨_, rfl⟩
  have hse1 : se ≤ 10 := by rw [hse]; exact (short_length e).2
  have hsx1 : sx ≤ 10 := by rw [hsx]; exact (short_length lx).2
  obtain ⟨B, hB⟩ : ∃ B, B = le a 2 ++ (le c 4 ++ (le d 8 ++ (short e ++ (short lx ++ (x ++ more))))) := ⟨_, rfl⟩
  have hlaw := back_law a c d e lx se sx x more B HX.out hB ha hc HD.out HE.out (by omega) hse hsx
  have HLAW := Lib.hid hlaw
  have hBl : B.length = 14 + se + sx + lx + lm := by rw [HM.out]; exact hlaw.2.2.2.2.2.2
  have HBL := Lib.hid hBl
  have HBB : Hid (Bytes8 B) := Lib.hid (by rw [hB]; exact bytes8_append (le_bytes _ _) (bytes8_append (le_bytes _ _) (bytes8_append (le_bytes _ _) (bytes8_append (short_bytes e HE.out) (bytes8_append (short_bytes lx (by omega)) (bytes8_append b4 b5))))))
  have HB := Lib.hid hB
  have HSE := Lib.hid hse
  have HSX := Lib.hid hsx
  clear hlaw hBl hB hse hsx b4 b5
  go_enter Try.func10, Try.ntmps10
  go_wp2_with fail
  refine (appU16_any none 0 0 (a : Int) [] rfl w ⟨by simp, by omega, by simp⟩ (by omega) (by omega) (by omega)).mono ?_
  rintro e1 w1 ⟨ad1, cap1, rfl, ho1, kp1⟩
  rw [Int.toNat_natCast, List.nil_append] at ho1
  have HO1 := Lib.hid ho1
  have kw1 := kp1
  clear ho1 kp1
  go_wp2_with fail
  refine (appU32_any ad1 cap1 2 (c : Int) _ (by rw [le_length]) w1 HO1.out.rd (by omega) (by omega) (by omega)).mono ?_
  rintro e1 w2 ⟨ad2, cap2, rfl, ho2, kp2⟩
  rw [Int.toNat_natCast] at ho2
  have HO2 := Lib.hid ho2
  have kw2 := kw1.tr kp2
  clear ho2 kp2 kw1
  go_wp2_with fail
  refine (appU64_any ad2 cap2 6 (d : Int) _ (by simp [le_length]) w2 HO2.out.rd (by omega) (by omega)).mono ?_
  rintro e1 w3 ⟨ad3, cap3, rfl, ho3, kp3⟩
  rw [Int.toNat_natCast] at ho3
  have HO3 := Lib.hid ho3
  have kw3 := kw2.tr kp3
  clear ho3 kp3 kw2
  go_wp2_with fail
  refine (appUint_any ad3 cap3 14 (e : Int) _ (by simp [le_length]) w3 HO3.out.rd (by omega) (by omega) (by have := HE.out; omega)).mono ?_
  rw [Int.toNat_natCast, ← HSE.out]
  rintro e1 w4 ⟨ad4, cap4', rfl, ho4, kp4⟩
  have HO4 := Lib.hid ho4
  have kw4 := kw3.tr kp4
  clear ho4 kp4 kw3
  go_wp2_with fail
  refine (appUint_any ad4 cap4' (14 + se) (lx : Int) _ (by rw [HSE.out]; simp [le_length]; omega) w4 HO4.out.rd (by omega) (by omega) (by omega)).mono ?_
  rw [Int.toNat_natCast, ← HSX.out]
  rintro e1 w5 ⟨ad5, cap5', rfl, ho5, kp5⟩
  have hz4 := kw4.size
  have HO5 := Lib.hid (ho5.mono hz4)
  have kw5 := kw4.tr kp5
  have HX5 := Lib.hid (H4.out.keep0 kw5)
  have hz5 := kw5.size
  obtain ⟨Z, hZ⟩ : ∃ Z, Z = le a 2 ++ le c 4 ++ le d 8 ++ short e ++ short lx := ⟨_, rfl⟩
  have hZl : Z.length = 14 + se + sx := by rw [hZ, HSE.out, HSX.out]; simp [le_length]; omega
  have HZL := Lib.hid hZl
  have HZ := Lib.hid hZ
  rw [← hZ] at HO5
  clear ho5 kp5 kw4 hZ hZl
  go_wp2_with (first
    | (at_builtin; refine wpList_app rfl (.tmp 36) (.tmp 37) 40 40 rfl w.heap.size 5 .u8 1 Try.underlying40 infoU8 ad5 cap5' (14 + se + sx) Z HZL.out.symm x _ lx HX.out rfl rfl HO5.out (by rw [HX.out]; exact src_rd HX5.out Try.underlying40) (by omega) (by omega) hz5 ?_; intro ad6 cap6 w6 ho6 kp6 hob6 _)
    | (at_builtin; refine wpList_app rfl (.tmp 39) (.tmp 40) 40 40 rfl w.heap.size 5 .u8 1 Try.underlying40 infoU8 (some ⟨w6.heap.size, 0, none⟩) 0 0 [] rfl (Z ++ x) _ (14 + se + sx + lx) (by rw [List.length_append, HZL.out, HX.out]) rfl rfl (.inl ⟨rfl, rfl⟩) (by have := src_rd (ho6.rd.alloc (.cells #[] 5)) Try.underlying40; rw [List.length_append, HZL.out, ← HX.out] at this; exact this) (by omega) (by omega) (by have := kp6.size; simp; omega) ?_; intro ad7 cap7 w7 ho7 kp7 hob7 _)
    | (at_builtin; refine wpList_app rfl (.tmp 41) (.tmp 42) 40 40 rfl w.heap.size 5 .u8 1 Try.underlying40 infoU8 ad7 cap7 (14 + se + sx + lx) ([] ++ (Z ++ x)) (by rw [List.nil_append, List.length_append, HZL.out, HX.out]) more _ lm HM.out rfl rfl ho7 (by rw [HM.out]; exact src_rd (H5.out.keep0 ((((kw5.trans kp6 (U := []) (by simp) (fun y hy => .inr (HO5.out.ob_ge y hy).1)).alloc _).trans kp7 (U := []) (by simp) (by simp [ob])))) Try.underlying40) (by omega) (by omega) (by have := kp6.size; have := kp7.size; simp at this; omega) ?_; intro ad8 cap8 w8 ho8 kp8 hob8 _))
  have kw7 : Kp [] w w7 := ((kw5.trans kp6 (U := []) (by simp) (fun y hy => .inr (HO5.out.ob_ge y hy).1)).alloc _).trans kp7 (U := []) (by simp) (by simp [ob])
  have kw8 : Kp [] w w8 := kw7.trans kp8 (by simp) (fun y hy => .inr (ho7.ob_ge y hy).1)
  rw [show [] ++ (Z ++ x) ++ more = B by rw [HB.out, HZ.out]; simp] at ho8
  have HO8 := Lib.hid ho8
  have hz8 := kw8.size
  clear ho6 ho7 ho8 kp6 kp7 kp8 hob6 hob7 hob8 kw5 kw7 hz4 hz5
  refine (cnew_any ad8 cap8 (14 + se + sx + lx + lm) B HBL.out.symm w8 HO8.out.rd (by omega)).mono ?_
  rintro e1 w9 ⟨p, rfl, hp0, hp, kp9⟩
  have hpl := hp.lt
  have kw9 := kw8.tr kp9
  have HP := Lib.hid hp
  have HX9 := Lib.hid (H4.out.keep0 kw9)
  have hSO : ∀ y ∈ [p], y < w9.heap.size := by intro y hy; simp at hy; omega
  clear hp kp9 kw8
  go_wp2_with fail
  refine wp_region_GS (by kernel_rfl) [p] [.val (.pointer (some ⟨p, 0, none⟩)), .val (.bool false), .val (.bool false), .val (.pointer (some ⟨p, 0, none⟩)), .val (.int .u16 (a : Int)), .val (.int .u16 (a : Int)), .val (.bool false), .val (.bool false), .val (.bool false), .val (.pointer (some ⟨p, 0, none⟩)), .val (.int .u32 (c : Int)), .val (.int .u32 (c : Int)), .val (.bool false), .val (.bool false), .val (.bool false), .val (.pointer (some ⟨p, 0, none⟩)), .val (.int .u64 (d : Int)), .val (.int .u64 (d : Int)), .val (.bool false), .val (.bool false), .val (.bool false), .val (.pointer (some ⟨p, 0, none⟩)), .val (.int .u64 (e : Int)), .val (.int .u64 (e : Int)), .val (.bool false), .val (.bool false), .val (.bool false), .val (.pointer (some ⟨p, 0, none⟩)), .val (.int .u64 (lx : Int)), .val (.slice a4 lx cap4), .val (.int .i64 ((lx : Nat) : Int)), .val (.int .u64 (lx : Int)), .val (.bool false), .val (.bool false), .val (.bool false), .val (.pointer (some ⟨p, 0, none⟩)), .val (.slice a4 lx cap4), .val (.int .i64 ((lx : Nat) : Int)), .own w9.heap.size hSO 5 .u8 lx x, .val (.string (strOfNums x)), .val (.slice a4 lx cap4), .val (.string (strOfNums x)), .val (.bool false), .val (.bool false)] [[(14, none)], [(45, some 0)], [(46, some 1)], [(47, some 2), (14, none)], [(47, some 2), (48, some 3)], [(47, some 2), (0, none)], [(47, some 2), (49, some 4), (50, some 5)], [(47, some 2), (51, some 6)], [(52, some 7)], [(53, some 8), (14, none)], [(53, some 8), (54, some 9)], [(53, some 8), (1, none)], [(53, some 8), (55, some 10), (56, some 11)], [(53, some 8), (57, some 12)], [(58, some 13)], [(59, some 14), (14, none)], [(59, some 14), (60, some 15)], [(59, some 14), (2, none)], [(59, some 14), (61, some 16), (62, some 17)], [(59, some 14), (63, some 18)], [(64, some 19)], [(65, some 20), (14, none)], [(65, some 20), (66, some 21)], [(65, some 20), (3, none)], [(65, some 20), (67, some 22), (68, some 23)], [(65, some 20), (69, some 24)], [(70, some 25)], [(71, some 26), (14, none)], [(71, some 26), (72, some 27)], [(71, some 26), (4, none)], [(71, some 26), (74, some 29)], [(71, some 26), (75, some 30)], [(71, some 26), (73, some 28), (76, some 31)], [(71, some 26), (77, some 32)], [(78, some 33)], [(79, some 34), (14, none)], [(79, some 34), (4, none)], [(79, some 34), (81, some 36)], [(79, some 34), (80, some 35), (82, some 37)], [(79, some 34), (83, some 38)], [(79, some 34), (4, none)], [(79, some 34), (85, some 40)], [(79, some 34), (84, some 39), (86, some 41)], [(79, some 34), (87, some 42)]] [4, 10, 16, 22, 28, 38] (fun m wx => Rdr wx w9.heap.size p B (bkpos se sx lx m) false) 44 rfl (by kernel_rfl) (by kernel_rfl) (by kernel_rfl) (by kernel_rfl) (by kernel_rfl) (by simp) (fun _ _ _ h k => h.keep k) HP.out ?_ ?_
  · refine (ObG.free rfl ?o0 (ObG.free rfl ?o1 (ObG.free rfl ?o2 (ObG.free rfl ?o3 (ObG.chain 0 rfl ?o4 (ObG.free rfl ?o5 (ObG.free rfl ?o6 (ObG.free rfl ?o7 (ObG.free rfl ?o8 (ObG.free rfl ?o9 (ObG.chain 1 rfl ?o10 (ObG.free rfl ?o11 (ObG.free rfl ?o12 (ObG.free rfl ?o13 (ObG.free rfl ?o14 (ObG.free rfl ?o15 (ObG.chain 2 rfl ?o16 (ObG.free rfl ?o17 (ObG.free rfl ?o18 (ObG.free rfl ?o19 (ObG.free rfl ?o20 (ObG.free rfl ?o21 (ObG.chain 3 rfl ?o22 (ObG.free rfl ?o23 (ObG.free rfl ?o24 (ObG.free rfl ?o25 (ObG.free rfl ?o26 (ObG.free rfl ?o27 (ObG.chain 4 rfl ?o28 (ObG.free rfl ?o29 (ObG.free rfl ?o30 (ObG.free rfl ?o31 (ObG.free rfl ?o32 (ObG.free rfl ?o33 (ObG.free rfl ?o34 (ObG.free rfl ?o35 (ObG.free rfl ?o36 (ObG.free rfl ?o37 (ObG.chain 5 rfl ?o38 (ObG.free rfl ?o39 (ObG.free rfl ?o40 (ObG.free rfl ?o41 (ObG.free rfl ?o42 (ObG.free rfl ?o43 trivial))))))))))))))))))))))))))))))))))))))))))))
    case o0 => intro aR wR mR hR hI; replace hR := hR.undrew; intro (h14 : aR.tmps[14]? = some (.pointer (some ⟨p, 0, none⟩))); exact exec_val (c := .pointer (some ⟨p, 0, none⟩)) (wanted_none rfl) (by go_simp) rfl
    case o1 => intro aR wR mR hR hI; replace hR := hR.undrew; intro v45 h45 e45; replace e45 : v45 = .pointer (some ⟨p, 0, none⟩) := e45; subst e45; exact exec_val (c := .bool false) (wanted_none rfl) (by go_simp) rfl
    case o2 => intro aR wR mR hR hI; replace hR := hR.undrew; intro v46 h46 e46; replace e46 : v46 = .bool false := e46; subst e46; exact exec_val (c := .bool false) (wanted_none rfl) (by go_simp) rfl
    case o3 => intro aR wR mR hR hI; replace hR := hR.undrew; intro v47 h47 e47; replace e47 : v47 = .bool false := e47; subst e47; intro (h14 : aR.tmps[14]? = some (.pointer (some ⟨p, 0, none⟩))); exact exec_val (c := .pointer (some ⟨p, 0, none⟩)) (wanted_yes (b := false) (t := 47) rfl rfl h47) (by go_simp) rfl
    case o4 => intro aR wR hR hI; replace hR := hR.undrew; intro v47 h47 e47; replace e47 : v47 = .bool false := e47; subst e47; intro v48 h48 e48; replace e48 : v48 = .pointer (some ⟨p, 0, none⟩) := e48; subst e48; refine exec_callS (wanted_yes (b := false) (t := 47) rfl rfl h47) (by go_simp; exact ⟨rfl, rfl⟩) ?_; refine (cu16_yes p B 0 a _ (show Rdr wR w9.heap.size p B 0 false from hI) HBB.out (by have := HBL.out; omega) HLAW.out.1).mono ?_; rintro e7 w7 ⟨rfl, hp7, kp7⟩; exact ⟨_, rfl, rfl, kp7, hp7⟩
    case o5 => intro aR wR mR hR hI; replace hR := hR.undrew; intro v47 h47 e47; replace e47 : v47 = .bool false := e47; subst e47; intro (h0 : aR.tmps[0]? = some (.int .u16 (a : Int))); exact exec_val (c := .int .u16 (a : Int)) (wanted_yes (b := false) (t := 47) rfl rfl h47) (by go_simp) rfl
    case o6 => intro aR wR mR hR hI; replace hR := hR.undrew; intro v47 h47 e47; replace e47 : v47 = .bool false := e47; subst e47; intro v49 h49 e49; replace e49 : v49 = .int .u16 (a : Int) := e49; subst e49; intro v50 h50 e50; replace e50 : v50 = .int .u16 (a : Int) := e50; subst e50; exact exec_val (c := .bool false) (wanted_yes (b := false) (t := 47) rfl rfl h47) (by go_simp) rfl
    case o7 => intro aR wR mR hR hI; replace hR := hR.undrew; intro v47 h47 e47; replace e47 : v47 = .bool false := e47; subst e47; intro v51 h51 e51; replace e51 : v51 = .bool false := e51; subst e51; exact exec_val (c := .bool false) (wanted_none rfl) (by go_simp) rfl
    case o8 => intro aR wR mR hR hI; replace hR := hR.undrew; intro v52 h52 e52; replace e52 : v52 = .bool false := e52; subst e52; exact exec_val (c := .bool false) (wanted_none rfl) (by go_simp) rfl
    case o9 => intro aR wR mR hR hI; replace hR := hR.undrew; intro v53 h53 e53; replace e53 : v53 = .bool false := e53; subst e53; intro (h14 : aR.tmps[14]? = some (.pointer (some ⟨p, 0, none⟩))); exact exec_val (c := .pointer (some ⟨p, 0, none⟩)) (wanted_yes (b := false) (t := 53) rfl rfl h53) (by go_simp) rfl
    case o10 => intro aR wR hR hI; replace hR := hR.undrew; intro v53 h53 e53; replace e53 : v53 = .bool false := e53; subst e53; intro v54 h54 e54; replace e54 : v54 = .pointer (some ⟨p, 0, none⟩) := e54; subst e54; refine exec_callS (wanted_yes (b := false) (t := 53) rfl rfl h53) (by go_simp; exact ⟨rfl, rfl⟩) ?_; refine (cu32_yes p B 2 c _ (show Rdr wR w9.heap.size p B 2 false from hI) HBB.out (by have := HBL.out; omega) HLAW.out.2.1).mono ?_; rintro e7 w7 ⟨rfl, hp7, kp7⟩; exact ⟨_, rfl, rfl, kp7, hp7⟩
    case o11 => intro aR wR mR hR hI; replace hR := hR.undrew; intro v53 h53 e53; replace e53 : v53 = .bool false := e53; subst e53; intro (h1 : aR.tmps[1]? = some (.int .u32 (c : Int))); exact exec_val (c := .int .u32 (c : Int)) (wanted_yes (b := false) (t := 53) rfl rfl h53) (by go_simp) rfl
    case o12 => intro aR wR mR hR hI; replace hR := hR.undrew; intro v53 h53 e53; replace e53 : v53 = .bool false := e53; subst e53; intro v55 h55 e55; replace e55 : v55 = .int .u32 (c : Int) := e55; subst e55; intro v56 h56 e56; replace e56 : v56 = .int .u32 (c : Int) := e56; subst e56; exact exec_val (c := .bool false) (wanted_yes (b := false) (t := 53) rfl rfl h53) (by go_simp) rfl
    case o13 => intro aR wR mR hR hI; replace hR := hR.undrew; intro v53 h53 e53; replace e53 : v53 = .bool false := e53; subst e53; intro v57 h57 e57; replace e57 : v57 = .bool false := e57; subst e57; exact exec_val (c := .bool false) (wanted_none rfl) (by go_simp) rfl
    case o14 => intro aR wR mR hR hI; replace hR := hR.undrew; intro v58 h58 e58; replace e58 : v58 = .bool false := e58; subst e58; exact exec_val (c := .bool false) (wanted_none rfl) (by go_simp) rfl
    case o15 => intro aR wR mR hR hI; replace hR := hR.undrew; intro v59 h59 e59; replace e59 : v59 = .bool false := e59; subst e59; intro (h14 : aR.tmps[14]? = some (.pointer (some ⟨p, 0, none⟩))); exact exec_val (c := .pointer (some ⟨p, 0, none⟩)) (wanted_yes (b := false) (t := 59) rfl rfl h59) (by go_simp) rfl
    case o16 => intro aR wR hR hI; replace hR := hR.undrew; intro v59 h59 e59; replace e59 : v59 = .bool false := e59; subst e59; intro v60 h60 e60; replace e60 : v60 = .pointer (some ⟨p, 0, none⟩) := e60; subst e60; refine exec_callS (wanted_yes (b := false) (t := 59) rfl rfl h59) (by go_simp; exact ⟨rfl, rfl⟩) ?_; refine (cu64_yes p B 6 d _ (show Rdr wR w9.heap.size p B 6 false from hI) HBB.out (by have := HBL.out; omega) HLAW.out.2.2.1).mono ?_; rintro e7 w7 ⟨rfl, hp7, kp7⟩; exact ⟨_, rfl, rfl, kp7, hp7⟩
    case o17 => intro aR wR mR hR hI; replace hR := hR.undrew; intro v59 h59 e59; replace e59 : v59 = .bool false := e59; subst e59; intro (h2 : aR.tmps[2]? = some (.int .u64 (d : Int))); exact exec_val (c := .int .u64 (d : Int)) (wanted_yes (b := false) (t := 59) rfl rfl h59) (by go_simp) rfl
    case o18 => intro aR wR mR hR hI; replace hR := hR.undrew; intro v59 h59 e59; replace e59 : v59 = .bool false := e59; subst e59; intro v61 h61 e61; replace e61 : v61 = .int .u64 (d : Int) := e61; subst e61; intro v62 h62 e62; replace e62 : v62 = .int .u64 (d : Int) := e62; subst e62; exact exec_val (c := .bool false) (wanted_yes (b := false) (t := 59) rfl rfl h59) (by go_simp) rfl
    case o19 => intro aR wR mR hR hI; replace hR := hR.undrew; intro v59 h59 e59; replace e59 : v59 = .bool false := e59; subst e59; intro v63 h63 e63; replace e63 : v63 = .bool false := e63; subst e63; exact exec_val (c := .bool false) (wanted_none rfl) (by go_simp) rfl
    case o20 => intro aR wR mR hR hI; replace hR := hR.undrew; intro v64 h64 e64; replace e64 : v64 = .bool false := e64; subst e64; exact exec_val (c := .bool false) (wanted_none rfl) (by go_simp) rfl
    case o21 => intro aR wR mR hR hI; replace hR := hR.undrew; intro v65 h65 e65; replace e65 : v65 = .bool false := e65; subst e65; intro (h14 : aR.tmps[14]? = some (.pointer (some ⟨p, 0, none⟩))); exact exec_val (c := .pointer (some ⟨p, 0, none⟩)) (wanted_yes (b := false) (t := 65) rfl rfl h65) (by go_simp) rfl
    case o22 => intro aR wR hR hI; replace hR := hR.undrew; intro v65 h65 e65; replace e65 : v65 = .bool false := e65; subst e65; intro v66 h66 e66; replace e66 : v66 = .pointer (some ⟨p, 0, none⟩) := e66; subst e66; refine exec_callS (wanted_yes (b := false) (t := 65) rfl rfl h65) (by go_simp; exact ⟨rfl, rfl⟩) ?_; refine (cuint_yes p B 14 e se _ (show Rdr wR w9.heap.size p B 14 false from hI) HBB.out HLAW.out.2.2.2.1 HSE.out).mono ?_; rintro e7 w7 ⟨rfl, hp7, kp7⟩; exact ⟨_, rfl, rfl, kp7, hp7⟩
    case o23 => intro aR wR mR hR hI; replace hR := hR.undrew; intro v65 h65 e65; replace e65 : v65 = .bool false := e65; subst e65; intro (h3 : aR.tmps[3]? = some (.int .u64 (e : Int))); exact exec_val (c := .int .u64 (e : Int)) (wanted_yes (b := false) (t := 65) rfl rfl h65) (by go_simp) rfl
    case o24 => intro aR wR mR hR hI; replace hR := hR.undrew; intro v65 h65 e65; replace e65 : v65 = .bool false := e65; subst e65; intro v67 h67 e67; replace e67 : v67 = .int .u64 (e : Int) := e67; subst e67; intro v68 h68 e68; replace e68 : v68 = .int .u64 (e : Int) := e68; subst e68; exact exec_val (c := .bool false) (wanted_yes (b := false) (t := 65) rfl rfl h65) (by go_simp) rfl
    case o25 => intro aR wR mR hR hI; replace hR := hR.undrew; intro v65 h65 e65; replace e65 : v65 = .bool false := e65; subst e65; intro v69 h69 e69; replace e69 : v69 = .bool false := e69; subst e69; exact exec_val (c := .bool false) (wanted_none rfl) (by go_simp) rfl
    case o26 => intro aR wR mR hR hI; replace hR := hR.undrew; intro v70 h70 e70; replace e70 : v70 = .bool false := e70; subst e70; exact exec_val (c := .bool false) (wanted_none rfl) (by go_simp) rfl
    case o27 => intro aR wR mR hR hI; replace hR := hR.undrew; intro v71 h71 e71; replace e71 : v71 = .bool false := e71; subst e71; intro (h14 : aR.tmps[14]? = some (.pointer (some ⟨p, 0, none⟩))); exact exec_val (c := .pointer (some ⟨p, 0, none⟩)) (wanted_yes (b := false) (t := 71) rfl rfl h71) (by go_simp) rfl
    case o28 => intro aR wR hR hI; replace hR := hR.undrew; intro v71 h71 e71; replace e71 : v71 = .bool false := e71; subst e71; intro v72 h72 e72; replace e72 : v72 = .pointer (some ⟨p, 0, none⟩) := e72; subst e72; refine exec_callS (wanted_yes (b := false) (t := 71) rfl rfl h71) (by go_simp; exact ⟨rfl, rfl⟩) ?_; refine (cuint_yes p B (14 + se) lx sx _ (show Rdr wR w9.heap.size p B (14 + se) false from hI) HBB.out HLAW.out.2.2.2.2.1 HSX.out).mono ?_; rintro e7 w7 ⟨rfl, hp7, kp7⟩; exact ⟨_, rfl, rfl, kp7, hp7⟩
    case o29 => intro aR wR mR hR hI; replace hR := hR.undrew; intro v71 h71 e71; replace e71 : v71 = .bool false := e71; subst e71; intro (h4 : aR.tmps[4]? = some (.slice a4 lx cap4)); exact exec_val (c := .slice a4 lx cap4) (wanted_yes (b := false) (t := 71) rfl rfl h71) (by go_simp) rfl
    case o30 => intro aR wR mR hR hI; replace hR := hR.undrew; intro v71 h71 e71; replace e71 : v71 = .bool false := e71; subst e71; intro v74 h74 e74; replace e74 : v74 = .slice a4 lx cap4 := e74; subst e74; exact exec_val (c := .int .i64 ((lx : Nat) : Int)) (wanted_yes (b := false) (t := 71) rfl rfl h71) (by go_simp) rfl
    case o31 => intro aR wR mR hR hI; replace hR := hR.undrew; intro v71 h71 e71; replace e71 : v71 = .bool false := e71; subst e71; intro v75 h75 e75; replace e75 : v75 = .int .i64 ((lx : Nat) : Int) := e75; subst e75; have hcw : IntKind.u64.wrap (lx : Int) = (lx : Int) := IntWalk.u64_in _ (by omega); exact exec_val (c := .int .u64 (lx : Int)) (wanted_yes (b := false) (t := 71) rfl rfl h71) (by go_simp) rfl
    case o32 => intro aR wR mR hR hI; replace hR := hR.undrew; intro v71 h71 e71; replace e71 : v71 = .bool false := e71; subst e71; intro v73 h73 e73; replace e73 : v73 = .int .u64 (lx : Int) := e73; subst e73; intro v76 h76 e76; replace e76 : v76 = .int .u64 (lx : Int) := e76; subst e76; exact exec_val (c := .bool false) (wanted_yes (b := false) (t := 71) rfl rfl h71) (by go_simp) rfl
    case o33 => intro aR wR mR hR hI; replace hR := hR.undrew; intro v71 h71 e71; replace e71 : v71 = .bool false := e71; subst e71; intro v77 h77 e77; replace e77 : v77 = .bool false := e77; subst e77; exact exec_val (c := .bool false) (wanted_none rfl) (by go_simp) rfl
    case o34 => intro aR wR mR hR hI; replace hR := hR.undrew; intro v78 h78 e78; replace e78 : v78 = .bool false := e78; subst e78; exact exec_val (c := .bool false) (wanted_none rfl) (by go_simp) rfl
    case o35 => intro aR wR mR hR hI; replace hR := hR.undrew; intro v79 h79 e79; replace e79 : v79 = .bool false := e79; subst e79; intro (h14 : aR.tmps[14]? = some (.pointer (some ⟨p, 0, none⟩))); exact exec_val (c := .pointer (some ⟨p, 0, none⟩)) (wanted_yes (b := false) (t := 79) rfl rfl h79) (by go_simp) rfl
    case o36 => intro aR wR mR hR hI; replace hR := hR.undrew; intro v79 h79 e79; replace e79 : v79 = .bool false := e79; subst e79; intro (h4 : aR.tmps[4]? = some (.slice a4 lx cap4)); exact exec_val (c := .slice a4 lx cap4) (wanted_yes (b := false) (t := 79) rfl rfl h79) (by go_simp) rfl
    case o37 => intro aR wR mR hR hI; replace hR := hR.undrew; intro v79 h79 e79; replace e79 : v79 = .bool false := e79; subst e79; intro v81 h81 e81; replace e81 : v81 = .slice a4 lx cap4 := e81; subst e81; exact exec_val (c := .int .i64 ((lx : Nat) : Int)) (wanted_yes (b := false) (t := 79) rfl rfl h79) (by go_simp) rfl
    case o38 => intro aR wR hR hI; replace hR := hR.undrew; intro v79 h79 e79; replace e79 : v79 = .bool false := e79; subst e79; intro v80 h80 e80; replace e80 : v80 = .pointer (some ⟨p, 0, none⟩) := e80; subst e80; intro v82 h82 e82; replace e82 : v82 = .int .i64 ((lx : Nat) : Int) := e82; subst e82; refine exec_callS (wanted_yes (b := false) (t := 79) rfl rfl h79) (by go_simp; exact ⟨rfl, rfl⟩) ?_; refine (cbytes_yes p B (14 + se + sx) lx x _ (show Rdr wR w9.heap.size p B (14 + se + sx) false from hI) (by have := HBL.out; omega) HLAW.out.2.2.2.2.2.1 HX.out).mono ?_; rintro e7 w7 ⟨ad, cap, rfl, ho, hp7, kp7⟩; exact ⟨_, rfl, ⟨ad, cap, rfl, ho.mono hR.size⟩, kp7, hp7⟩
    case o39 => intro aR wR mR hR hI; replace hR := hR.undrew; intro v79 h79 e79; replace e79 : v79 = .bool false := e79; subst e79; intro v83 h83 e83; obtain ⟨ad, cap, rfl, ho⟩ := e83; have hcv := conv_str wR 40 9 5 Try.underlying40 Try.underlying5 Try.underlying9 ad cap lx x ho.rd HX.out; exact exec_val (c := .string (strOfNums x)) (wanted_yes (b := false) (t := 79) rfl rfl h79) (by go_simp) rfl
    case o40 => intro aR wR mR hR hI; replace hR := hR.undrew; intro v79 h79 e79; replace e79 : v79 = .bool false := e79; subst e79; intro (h4 : aR.tmps[4]? = some (.slice a4 lx cap4)); exact exec_val (c := .slice a4 lx cap4) (wanted_yes (b := false) (t := 79) rfl rfl h79) (by go_simp) rfl
    case o41 => intro aR wR mR hR hI; replace hR := hR.undrew; intro v79 h79 e79; replace e79 : v79 = .bool false := e79; subst e79; intro v85 h85 e85; replace e85 : v85 = .slice a4 lx cap4 := e85; subst e85; have hcv := conv_str wR 40 9 5 Try.underlying40 Try.underlying5 Try.underlying9 a4 cap4 lx x (HX9.out.keepne hR (fun y hy hne hm => by have := HLT.out y hy hne; simp at hm; omega)) HX.out; exact exec_val (c := .string (strOfNums x)) (wanted_yes (b := false) (t := 79) rfl rfl h79) (by go_simp) rfl
    case o42 => intro aR wR mR hR hI; replace hR := hR.undrew; intro v79 h79 e79; replace e79 : v79 = .bool false := e79; subst e79; intro v84 h84 e84; replace e84 : v84 = .string (strOfNums x) := e84; subst e84; intro v86 h86 e86; replace e86 : v86 = .string (strOfNums x) := e86; subst e86; exact exec_val (c := .bool false) (wanted_yes (b := false) (t := 79) rfl rfl h79) (by go_simp) rfl
    case o43 => intro aR wR mR hR hI; replace hR := hR.undrew; intro v79 h79 e79; replace e79 : v79 = .bool false := e79; subst e79; intro v87 h87 e87; replace e87 : v87 = .bool false := e87; subst e87; exact exec_val (c := .bool false) (wanted_none rfl) (by go_simp) rfl
  · intro vs wR hR hI hV
    obtain ⟨e0, e1, e2, e3, e4, e5, e6, e7, e8, e9, e10, e11, e12, e13, e14, e15, e16, e17, e18, e19, e20, e21, e22, e23, e24, e25, e26, e27, e28, e29, e30, e31, e32, e33, e34, e35, e36, e37, e38, e39, e40, e41, e42, e43, -⟩ := hV
    replace e0 : vs 0 = .pointer (some ⟨p, 0, none⟩) := e0
    replace e1 : vs 1 = .bool false := e1
    replace e2 : vs 2 = .bool false := e2
    replace e3 : vs 3 = .pointer (some ⟨p, 0, none⟩) := e3
    replace e4 : vs 4 = .int .u16 (a : Int) := e4
    replace e5 : vs 5 = .int .u16 (a : Int) := e5
    replace e6 : vs 6 = .bool false := e6
    replace e7 : vs 7 = .bool false := e7
    replace e8 : vs 8 = .bool false := e8
    replace e9 : vs 9 = .pointer (some ⟨p, 0, none⟩) := e9
    replace e10 : vs 10 = .int .u32 (c : Int) := e10
    replace e11 : vs 11 = .int .u32 (c : Int) := e11
    replace e12 : vs 12 = .bool false := e12
    replace e13 : vs 13 = .bool false := e13
    replace e14 : vs 14 = .bool false := e14
    replace e15 : vs 15 = .pointer (some ⟨p, 0, none⟩) := e15
    replace e16 : vs 16 = .int .u64 (d : Int) := e16
    replace e17 : vs 17 = .int .u64 (d : Int) := e17
    replace e18 : vs 18 = .bool false := e18
    replace e19 : vs 19 = .bool false := e19
    replace e20 : vs 20 = .bool false := e20
    replace e21 : vs 21 = .pointer (some ⟨p, 0, none⟩) := e21
    replace e22 : vs 22 = .int .u64 (e : Int) := e22
    replace e23 : vs 23 = .int .u64 (e : Int) := e23
    replace e24 : vs 24 = .bool false := e24
    replace e25 : vs 25 = .bool false := e25
    replace e26 : vs 26 = .bool false := e26
    replace e27 : vs 27 = .pointer (some ⟨p, 0, none⟩) := e27
    replace e28 : vs 28 = .int .u64 (lx : Int) := e28
    replace e29 : vs 29 = .slice a4 lx cap4 := e29
    replace e30 : vs 30 = .int .i64 ((lx : Nat) : Int) := e30
    replace e31 : vs 31 = .int .u64 (lx : Int) := e31
    replace e32 : vs 32 = .bool false := e32
    replace e33 : vs 33 = .bool false := e33
    replace e34 : vs 34 = .bool false := e34
    replace e35 : vs 35 = .pointer (some ⟨p, 0, none⟩) := e35
    replace e36 : vs 36 = .slice a4 lx cap4 := e36
    replace e37 : vs 37 = .int .i64 ((lx : Nat) : Int) := e37
    replace e39 : vs 39 = .string (strOfNums x) := e39
    replace e40 : vs 40 = .slice a4 lx cap4 := e40
    replace e41 : vs 41 = .string (strOfNums x) := e41
    replace e42 : vs 42 = .bool false := e42
    replace e43 : vs 43 = .bool false := e43
    simp only [putAll, List.take_succ_cons, List.take_zero, List.drop_succ_cons, List.drop_zero, e0, e1, e2, e3, e4, e5, e6, e7, e8, e9, e10, e11, e12, e13, e14, e15, e16, e17, e18, e19, e20, e21, e22, e23, e24, e25, e26, e27, e28, e29, e30, e31, e32, e33, e34, e35, e36, e37, e39, e40, e41, e42, e43, Nat.reduceAdd, Nat.zero_add]
    clear e0 e1 e2 e3 e4 e5 e6 e7 e8 e9 e10 e11 e12 e13 e14 e15 e16 e17 e18 e19 e20 e21 e22 e23 e24 e25 e26 e27 e28 e29 e30 e31 e32 e33 e34 e35 e36 e37 e39 e40 e41 e42 e43
    simp only [List.setIfInBounds_toArray, List.set_cons_succ, List.set_cons_zero]
    refine wpList_nil ?_
    have hrd : Rdr wR w9.heap.size p B (14 + se + sx + lx) false := hI
    have HRD := Lib.hid hrd
    have kwR : Kp [] w wR := kw9.trans hR (by simp) (by intro y hy; simp at hy; exact .inr (by omega))
    have hleft : B.length - (14 + se + sx + lx) = lm := by have := HBL.out; omega
    have HLE := Lib.hid hleft
    clear hrd hI hleft
    go_wp2_with fail
    refine (cat_any p B (14 + se + sx + lx) false wR HRD.out).mono ?_
    rintro e7 w' ⟨rfl, rfl⟩
    go_wp2_with fail
    refine (cleft_ok p B (14 + se + sx + lx) wR HRD.out).mono ?_
    rw [HLE.out]
    rintro e7 w10 ⟨rfl, kp10⟩
    go_wp2_with fail
    refine (cbad_any p B (14 + se + sx + lx) false w10 (HRD.out.keep kp10)).mono ?_
    rintro e7 w' ⟨rfl, rfl⟩
    go_wp2_with fail
    refine (known01 _).mono ?_
    rintro e7 w11 ⟨rfl, kp11⟩
    go_wp2_with fail
    go_ret
    exact ⟨rfl, (kwR.tr kp10).tr kp11⟩
end Go.Proofs.Ytanodmjolphpfaa
