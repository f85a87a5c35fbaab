/-
  Layer 3: what is known; the law of sums.
-/
import Derived.Test.YtlcilinobdjlaaaCrc4
import Derived.Lib.SmallJoins
namespace Go.Proofs.Ytlcilinobdjlaaa
open Go.RowKit
set_option linter.unusedSimpArgs false
set_option linter.unusedVariables false

section
variable {P : Program}
/-- 'append(x, b...)', x empty: a copy. -/
theorem wpList_copyB {ops : Array Oper} {rest : List Oper} {o : Oper} {a : Act} {Q : Exit → Act → World → Prop} {w : World} (hgd : o.guard = none) (s x : Operand) (t tx : TypeId)
    (hop : o.op = Op.call { callee := Callee.builtin Builtin.append, args := #[s, x], argTypes := #[t, tx] }) (base : Nat) (e : TypeId) (k : IntKind) (by' : Nat)
    (ht : P.underlying t = some (.slice e)) (htx : P.underlying tx = some (.slice e)) (hi : (P.info? e).map (fun i => (i.zero, i.size, i.bytes)) = some (some (.int k 0), 1, by'))
    (ad0 : Option Addr) (ad : Option Addr) (cap n : Nat) (zs : List Int) (hn : n = zs.length) (he : a.eval s = .slice ad0 0 0) (hxe : a.eval x = .slice ad n cap)
    (hr : Rd w k ad cap zs) (hb : n * by' ≤ 140737488355328) (hb2 : n ≤ 9223372036854775807) (hbase : base ≤ w.heap.size)
    (h : ∀ ad' cap' w', Own w' base e k ad' cap' zs → Kp [] w w' → wpList P ops Q rest (a.put o.dst (.slice ad' n cap')) w') :
    wpList P ops Q (o :: rest) a w := by
  subst hn
  refine wpList_app hgd s x t tx hop base e k by' ht hi ad0 0 0 [] rfl zs _ zs.length rfl he hxe (.inl ⟨rfl, rfl⟩) (src_rd hr htx) (by simpa using hb) (by simpa using hb2) hbase ?_
  intro ad' cap' w' h1 h2 _ _
  rw [Nat.zero_add]
  exact h ad' cap' w' h1 (h2.trans (Kp.refl [] w') (U := []) (by simp [ob]) (by simp))
end

theorem k3a : unErr [1, 0, 0, 0, 7, 0, 0, 0, 0] 0 = 6 := by decide +kernel
theorem k3b : crc [49, 50, 51, 52, 53, 54, 55, 56, 57] = 3421780262 := by decide +kernel
theorem k3c : crc [] = 0 := by decide +kernel

theorem bytes_dec {l : List Int} (h : l.all (fun z => decide (0 ≤ z) && decide (z ≤ 255)) = true) : Bytes8 l := fun z hz => by
  have := List.all_eq_true.1 h z hz; simp at this; exact this

/-- A row of numbers that is laid, marked or not. -/
theorem rd_row {w : World} {g : Nat} {k : IntKind} {zs : List Int} {t : TypeId} {fr : Nat × Nat} (h : w.heap[g]? = some (.cells (ints k zs) t fr)) (hl : zs.length ≤ 9223372036854775807) : Rd w k (some ⟨g, 0, none⟩) zs.length zs :=
  ⟨Nat.le_refl _, hl, fun i hi => ⟨g, 0, rfl, by rw [Nat.zero_add, cell_of_row w g i _ _ _ h, ints_get k zs i hi]⟩⟩

set_option maxHeartbeats 400000 in
theorem known03_any (w : World) : Calls Try.prog 12 #[] w fun e w' => e = .returned (.bool true) ∧ Kp [] w w' := by
  have hcv := fun wx : World => Go.Joins.run_convert_bytes_const_at (P := Try.prog) wx 22 5 (ints .u8 [49, 50, 51, 52, 53, 54, 55, 56, 57]) 9 9 wx.heap.size rfl Try.underlying22 Try.underlying5
  simp only [ints, List.map_cons, List.map_nil] at hcv
  go_enter Try.func12, Try.ntmps12
  go_wp2_with fail
  have ho : Own (w.alloc (Obj.cells (ints .u8 [1, 0, 0, 0, 7, 0, 0, 0, 0]) 5)) w.heap.size 5 .u8 (some ⟨w.heap.size, 0, none⟩) 9 [1, 0, 0, 0, 7, 0, 0, 0, 0] := Own.row (Nat.le_refl _) (heap_alloc_at rfl) (by decide)
  refine (kUnframe_any (some ⟨w.heap.size, 0, none⟩) 9 9 0 [1, 0, 0, 0, 7, 0, 0, 0, 0] rfl _ ho.rd (bytes_dec rfl) (by omega)).mono ?_
  rintro e w1 ⟨ad1, cap1, rfl, ho1, kp1⟩
  rw [k3a]
  have HK1 := Lib.hid (((Kp.refl [] w).alloc (Obj.cells (ints .u8 [1, 0, 0, 0, 7, 0, 0, 0, 0]) 5)).tr kp1)
  clear ho ho1 kp1
  go_wp2_with fail
  obtain ⟨w2, hw2⟩ : ∃ w2, w2 = w1.alloc (Obj.cells (ints .u8 [49, 50, 51, 52, 53, 54, 55, 56, 57]) 5 (9, 10)) := ⟨_, rfl⟩
  have h2 : w2.heap[w1.heap.size]? = some (Obj.cells (ints .u8 [49, 50, 51, 52, 53, 54, 55, 56, 57]) 5 (9, 10)) := by rw [hw2]; exact heap_alloc_at rfl
  have HK2 := Lib.hid (HK1.out.tr (show Kp [] w1 w2 by rw [hw2]; exact (Kp.refl [] w1).alloc _))
  refine (kSum_any (some ⟨w1.heap.size, 0, none⟩) 9 9 [49, 50, 51, 52, 53, 54, 55, 56, 57] rfl _ (by first | exact hw2 ▸ rd_row h2 (by decide) | (have := rd_row h2 (by decide); rw [hw2] at this; exact this)) (bytes_dec rfl) (by omega)).mono ?_
  rintro e w3 ⟨rfl, kp3⟩
  rw [k3b]
  have HK3 := Lib.hid (HK2.out.tr (show Kp [] w2 w3 by rw [hw2]; exact kp3))
  clear kp3 h2 hw2
  go_wp2_with fail
  refine (kSum_any none 0 0 [] rfl _ (Own.nil w3 0 5 .u8).rd (bytes_dec rfl) (by omega)).mono ?_
  rintro e w4 ⟨rfl, kp4⟩
  rw [k3c]
  have HK4 := Lib.hid (HK3.out.tr kp4)
  clear kp4
  go_wp2_with fail
  refine (kFrame_any none 0 0 [] rfl _ (Own.nil w4 0 5 .u8).rd (bytes_dec rfl) (by omega)).mono ?_
  rintro e w5 ⟨ad5, cap5, rfl, ho5, kp5⟩
  go_wp2_with fail
  go_ret
  exact ⟨rfl, HK4.out.tr kp5⟩

set_option maxRecDepth 100000 in
set_option maxHeartbeats 800000 in
theorem crcSums_any (a0 : Option Addr) (cap0 n : Nat) (zs : List Int) (hn : n = zs.length) (w : World) (hr : Rd w .u8 a0 cap0 zs) (hb : Bytes8 zs) :
    Calls Try.prog 3 #[.slice a0 n cap0] w fun e w' => e = .returned (.bool true) ∧ Kp [] w w' := by
  have HR := Lib.hid hr
  have HN := Lib.hid hn
  have hcm := hr.2.1
  have hcl := hr.1
  rw [← hn] at hcl
  clear hr hn
  by_cases h0 : (3000 : Int) < (n : Int)
  · go_enter Try.func3, Try.ntmps3
    go_wp2_with fail
    refine (known03_any _).mono ?_
    rintro e w1 ⟨rfl, kp1⟩
    go_wp2_with fail
    go_ret
    exact ⟨rfl, kp1⟩
  · go_enter Try.func3, Try.ntmps3
    go_wp2_with (at_builtin; refine wpList_copyB rfl (.tmp 9) (.tmp 10) 22 22 rfl w.heap.size 5 .u8 1 Try.underlying22 Try.underlying22 infoU8 (some ⟨w.heap.size, 0, none⟩) a0 cap0 n zs HN.out rfl rfl (HR.out.alloc _) (by omega) (by omega) (by simp) ?_; intro ad1 cap1 w1 ho1 kp1; have HO1 := Lib.hid ho1; have HK1 := Lib.hid (((Kp.refl [] w).alloc _).tr kp1); clear ho1 kp1)
    refine (kFrame_any ad1 cap1 n zs HN.out _ HO1.out.rd hb (by omega)).mono ?_
    rintro e w2 ⟨ad2, cap2, rfl, ho2, kp2⟩
    have HO2 := Lib.hid ho2
    have HK2 := Lib.hid kp2
    obtain ⟨c, hc⟩ : ∃ c, c = crc zs := ⟨_, rfl⟩
    have HC := Lib.hid hc
    clear ho2 kp2 hc
    go_wp2_with fail
    refine wp_region_K (by kernel_rfl) [.val (.slice ad1 n cap1), .val (.int .u32 (c : Int)), .val (.slice a0 n cap0), .val (.int .u32 (c : Int)), .val (.bool true), .val (.bool true), .val (.slice ad2 (n + 8) cap2), .val (.string (strOfNums (frB zs))), .val (.slice a0 n cap0), .own w2.heap.size 5 .u8 (n + 8) (frB zs), .val (.string (strOfNums (frB zs))), .val (.bool true), .val (.bool true), .val (.bool true), .val (.slice ad1 n cap1), .val (.string (strOfNums zs)), .val (.slice a0 n cap0), .val (.string (strOfNums zs)), .val (.bool true), .val (.bool true), .val (.bool true), .val (.bool true), .val (.bool true), .val (.bool true)] [[(3, none)], [(14, some 0)], [(0, none)], [(16, some 2)], [(15, some 1), (17, some 3)], [(18, some 4)], [(19, some 5), (4, none)], [(19, some 5), (20, some 6)], [(19, some 5), (0, none)], [(19, some 5), (22, some 8)], [(19, some 5), (23, some 9)], [(19, some 5), (21, some 7), (24, some 10)], [(19, some 5), (25, some 11)], [(26, some 12)], [(27, some 13), (3, none)], [(27, some 13), (28, some 14)], [(27, some 13), (0, none)], [(27, some 13), (30, some 16)], [(27, some 13), (29, some 15), (31, some 17)], [(27, some 13), (32, some 18)], [(33, some 19)], [(34, some 20)], [(34, some 20), (35, some 21)], [(36, some 22)]] rfl (by kernel_rfl) ?_ ?_
    · refine ⟨?o0, ?o1, ?o2, ?o3, ?o4, ?o5, ?o6, ?o7, ?o8, ?o9, ?o10, ?o11, ?o12, ?o13, ?o14, ?o15, ?o16, ?o17, ?o18, ?o19, ?o20, ?o21, ?o22, ?o23, trivial⟩
      case o0 => intro aR wR hR; replace hR := hR.undrew; intro (h3 : aR.tmps[3]? = some (.slice ad1 n cap1)); exact exec_val (c := .slice ad1 n cap1) (wanted_none rfl) (by go_simp) rfl
      case o1 => intro aR wR hR; replace hR := hR.undrew; intro v14 h14 e14; replace e14 : v14 = .slice ad1 n cap1 := e14; subst e14; refine exec_call (wanted_none rfl) (by go_simp; exact ⟨rfl, rfl⟩) ?_; refine (kSum_any ad1 cap1 n zs HN.out _ ((HO1.out.keep0 HK2.out).rd.keep0 hR) hb (by omega)).mono ?_; rintro e w7 ⟨rfl, kp7⟩; exact ⟨_, rfl, by rw [HC.out]; rfl, kp7⟩
      case o2 => intro aR wR hR; replace hR := hR.undrew; intro (h0 : aR.tmps[0]? = some (.slice a0 n cap0)); exact exec_val (c := .slice a0 n cap0) (wanted_none rfl) (by go_simp) rfl
      case o3 => intro aR wR hR; replace hR := hR.undrew; intro v16 h16 e16; replace e16 : v16 = .slice a0 n cap0 := e16; subst e16; refine exec_call (wanted_none rfl) (by go_simp; exact ⟨rfl, rfl⟩) ?_; refine (r03Sum_any a0 cap0 n zs HN.out _ (HR.out.keep0 ((HK1.out.tr HK2.out).tr hR)) hb (by omega)).mono ?_; rintro e w7 ⟨rfl, rfl⟩; exact ⟨_, rfl, by rw [HC.out]; rfl, Kp.refl _ _⟩
      case o4 => intro aR wR hR; replace hR := hR.undrew; intro v15 h15 e15; replace e15 : v15 = .int .u32 (c : Int) := e15; subst e15; intro v17 h17 e17; replace e17 : v17 = .int .u32 (c : Int) := e17; subst e17; exact exec_val (c := .bool true) (wanted_none rfl) (by go_simp) rfl
      case o5 => intro aR wR hR; replace hR := hR.undrew; intro v18 h18 e18; replace e18 : v18 = .bool true := e18; subst e18; exact exec_val (c := .bool true) (wanted_none rfl) (by go_simp) rfl
      case o6 => intro aR wR hR; replace hR := hR.undrew; intro v19 h19 e19; replace e19 : v19 = .bool true := e19; subst e19; intro (h4 : aR.tmps[4]? = some (.slice ad2 (n + 8) cap2)); exact exec_val (c := .slice ad2 (n + 8) cap2) (wanted_yes (b := true) (t := 19) rfl rfl h19) (by go_simp) rfl
      case o7 => intro aR wR hR; replace hR := hR.undrew; intro v19 h19 e19; replace e19 : v19 = .bool true := e19; subst e19; intro v20 h20 e20; replace e20 : v20 = .slice ad2 (n + 8) cap2 := e20; subst e20; (have hcv := cvs wR ad2 cap2 (n + 8) (frB zs) (HO2.out.rd.keep0 hR) (by rw [frB_length, ← HN.out])); exact exec_val (c := .string (strOfNums (frB zs))) (wanted_yes (b := true) (t := 19) rfl rfl h19) (by go_simp) rfl
      case o8 => intro aR wR hR; replace hR := hR.undrew; intro v19 h19 e19; replace e19 : v19 = .bool true := e19; subst e19; intro (h0 : aR.tmps[0]? = some (.slice a0 n cap0)); exact exec_val (c := .slice a0 n cap0) (wanted_yes (b := true) (t := 19) rfl rfl h19) (by go_simp) rfl
      case o9 => intro aR wR hR; replace hR := hR.undrew; intro v19 h19 e19; replace e19 : v19 = .bool true := e19; subst e19; intro v22 h22 e22; replace e22 : v22 = .slice a0 n cap0 := e22; subst e22; refine exec_call (wanted_yes (b := true) (t := 19) rfl rfl h19) (by go_simp; exact ⟨rfl, rfl⟩) ?_; refine (r03Frame_any a0 cap0 n zs HN.out _ (HR.out.keep0 ((HK1.out.tr HK2.out).tr hR)) hb (by omega)).mono ?_; rintro e w7 ⟨ad7, cap7, rfl, ho7, kp7⟩; exact ⟨_, rfl, ⟨ad7, cap7, rfl, ho7.mono hR.size⟩, kp7⟩
      case o10 => intro aR wR hR; replace hR := hR.undrew; intro v19 h19 e19; replace e19 : v19 = .bool true := e19; subst e19; intro v23 h23 e23; (obtain ⟨ad, cap, rfl, ho⟩ := e23; have hcv := cvs wR ad cap (n + 8) (frB zs) ho.rd (by rw [frB_length, ← HN.out])); exact exec_val (c := .string (strOfNums (frB zs))) (wanted_yes (b := true) (t := 19) rfl rfl h19) (by go_simp) rfl
      case o11 => intro aR wR hR; replace hR := hR.undrew; intro v19 h19 e19; replace e19 : v19 = .bool true := e19; subst e19; intro v21 h21 e21; replace e21 : v21 = .string (strOfNums (frB zs)) := e21; subst e21; intro v24 h24 e24; replace e24 : v24 = .string (strOfNums (frB zs)) := e24; subst e24; exact exec_val (c := .bool true) (wanted_yes (b := true) (t := 19) rfl rfl h19) (by go_simp) rfl
      case o12 => intro aR wR hR; replace hR := hR.undrew; intro v19 h19 e19; replace e19 : v19 = .bool true := e19; subst e19; intro v25 h25 e25; replace e25 : v25 = .bool true := e25; subst e25; exact exec_val (c := .bool true) (wanted_none rfl) (by go_simp) rfl
      case o13 => intro aR wR hR; replace hR := hR.undrew; intro v26 h26 e26; replace e26 : v26 = .bool true := e26; subst e26; exact exec_val (c := .bool true) (wanted_none rfl) (by go_simp) rfl
      case o14 => intro aR wR hR; replace hR := hR.undrew; intro v27 h27 e27; replace e27 : v27 = .bool true := e27; subst e27; intro (h3 : aR.tmps[3]? = some (.slice ad1 n cap1)); exact exec_val (c := .slice ad1 n cap1) (wanted_yes (b := true) (t := 27) rfl rfl h27) (by go_simp) rfl
      case o15 => intro aR wR hR; replace hR := hR.undrew; intro v27 h27 e27; replace e27 : v27 = .bool true := e27; subst e27; intro v28 h28 e28; replace e28 : v28 = .slice ad1 n cap1 := e28; subst e28; (have hcv := cvs wR ad1 cap1 n zs ((HO1.out.keep0 HK2.out).rd.keep0 hR) HN.out); exact exec_val (c := .string (strOfNums zs)) (wanted_yes (b := true) (t := 27) rfl rfl h27) (by go_simp) rfl
      case o16 => intro aR wR hR; replace hR := hR.undrew; intro v27 h27 e27; replace e27 : v27 = .bool true := e27; subst e27; intro (h0 : aR.tmps[0]? = some (.slice a0 n cap0)); exact exec_val (c := .slice a0 n cap0) (wanted_yes (b := true) (t := 27) rfl rfl h27) (by go_simp) rfl
      case o17 => intro aR wR hR; replace hR := hR.undrew; intro v27 h27 e27; replace e27 : v27 = .bool true := e27; subst e27; intro v30 h30 e30; replace e30 : v30 = .slice a0 n cap0 := e30; subst e30; (have hcv := cvs wR a0 cap0 n zs (HR.out.keep0 ((HK1.out.tr HK2.out).tr hR)) HN.out); exact exec_val (c := .string (strOfNums zs)) (wanted_yes (b := true) (t := 27) rfl rfl h27) (by go_simp) rfl
      case o18 => intro aR wR hR; replace hR := hR.undrew; intro v27 h27 e27; replace e27 : v27 = .bool true := e27; subst e27; intro v29 h29 e29; replace e29 : v29 = .string (strOfNums zs) := e29; subst e29; intro v31 h31 e31; replace e31 : v31 = .string (strOfNums zs) := e31; subst e31; exact exec_val (c := .bool true) (wanted_yes (b := true) (t := 27) rfl rfl h27) (by go_simp) rfl
      case o19 => intro aR wR hR; replace hR := hR.undrew; intro v27 h27 e27; replace e27 : v27 = .bool true := e27; subst e27; intro v32 h32 e32; replace e32 : v32 = .bool true := e32; subst e32; exact exec_val (c := .bool true) (wanted_none rfl) (by go_simp) rfl
      case o20 => intro aR wR hR; replace hR := hR.undrew; intro v33 h33 e33; replace e33 : v33 = .bool true := e33; subst e33; exact exec_val (c := .bool true) (wanted_none rfl) (by go_simp) rfl
      case o21 => intro aR wR hR; replace hR := hR.undrew; intro v34 h34 e34; replace e34 : v34 = .bool true := e34; subst e34; refine exec_call (wanted_yes (b := true) (t := 34) rfl rfl h34) (by go_simp; exact ⟨rfl, rfl⟩) ?_; refine (known03_any _).mono ?_; rintro e w7 ⟨rfl, kp7⟩; exact ⟨_, rfl, rfl, kp7⟩
      case o22 => intro aR wR hR; replace hR := hR.undrew; intro v34 h34 e34; replace e34 : v34 = .bool true := e34; subst e34; intro v35 h35 e35; replace e35 : v35 = .bool true := e35; subst e35; exact exec_val (c := .bool true) (wanted_none rfl) (by go_simp) rfl
      case o23 => intro aR wR hR; replace hR := hR.undrew; intro v36 h36 e36; replace e36 : v36 = .bool true := e36; subst e36; exact exec_val (c := .bool true) (wanted_none rfl) (by go_simp) rfl
    · intro vs wR hR hV
      obtain ⟨e0, e1, e2, e3, e4, e5, e6, e7, e8, e9, e10, e11, e12, e13, e14, e15, e16, e17, e18, e19, e20, e21, e22, e23, -⟩ := hV
      replace e0 : vs 0 = .slice ad1 n cap1 := e0
      replace e1 : vs 1 = .int .u32 (c : Int) := e1
      replace e2 : vs 2 = .slice a0 n cap0 := e2
      replace e3 : vs 3 = .int .u32 (c : Int) := e3
      replace e4 : vs 4 = .bool true := e4
      replace e5 : vs 5 = .bool true := e5
      replace e6 : vs 6 = .slice ad2 (n + 8) cap2 := e6
      replace e7 : vs 7 = .string (strOfNums (frB zs)) := e7
      replace e8 : vs 8 = .slice a0 n cap0 := e8
      replace e10 : vs 10 = .string (strOfNums (frB zs)) := e10
      replace e11 : vs 11 = .bool true := e11
      replace e12 : vs 12 = .bool true := e12
      replace e13 : vs 13 = .bool true := e13
      replace e14 : vs 14 = .slice ad1 n cap1 := e14
      replace e15 : vs 15 = .string (strOfNums zs) := e15
      replace e16 : vs 16 = .slice a0 n cap0 := e16
      replace e17 : vs 17 = .string (strOfNums zs) := e17
      replace e18 : vs 18 = .bool true := e18
      replace e19 : vs 19 = .bool true := e19
      replace e20 : vs 20 = .bool true := e20
      replace e21 : vs 21 = .bool true := e21
      replace e22 : vs 22 = .bool true := e22
      replace e23 : vs 23 = .bool true := e23
      simp only [putAll, e0, e1, e2, e3, e4, e5, e6, e7, e8, e10, e11, e12, e13, e14, e15, e16, e17, e18, e19, e20, e21, e22, e23, Nat.reduceAdd, Nat.zero_add]
      clear e0 e1 e2 e3 e4 e5 e6 e7 e8 e10 e11 e12 e13 e14 e15 e16 e17 e18 e19 e20 e21 e22 e23
      simp only [List.setIfInBounds_toArray, List.set_cons_succ, List.set_cons_zero]
      go_wp2_with fail
      go_ret
      exact ⟨rfl, (HK1.out.tr HK2.out).tr hR⟩
end Go.Proofs.Ytlcilinobdjlaaa
