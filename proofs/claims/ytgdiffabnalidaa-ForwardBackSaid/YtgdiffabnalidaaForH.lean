/-
  Forward: told.
-/
import Derived.Test.YtgdiffabnalidaaForG
import Derived.Test.YtgdiffabnalidaaRegionG
namespace Go.Proofs.Ytgdiffabnalidaa
open Go.RowKit Go.Shelf
attribute [local go_sem] Oper.semAt_some
set_option linter.unusedSimpArgs false
set_option linter.unusedVariables false

theorem upto_last {f : Nat → Nat × Nat} {pre : List (Nat × Nat)} {x : Nat × Nat} {k : Nat} (h : pre ++ [x] = uptoF f k) : x = f pre.length := by
  have hl := congrArg List.length h
  simp [uptoF_length] at hl
  subst hl
  rw [uptoF_succ] at h
  have := (List.append_inj' h rfl).2
  simpa using this
theorem func_not_nil (b : Nat) (wx : World) : (binOp .eql 50 (.func (.func 45) #[] #[.pointer (some ⟨b, 0, none⟩)]) .nilFunc).run Try.prog wx = .ok (.bool false) wx := by
  have h : Try.prog.underlying 50 = _ := Try.underlying50
  have e : ∀ d, (Op.equalIn (d + 1) 50 (.func (.func 45) #[] #[.pointer (some ⟨b, 0, none⟩)]) .nilFunc).run Try.prog wx = .ok false wx := fun d => by simp [Op.equalIn, run_underlying h]
  have e2 : (Op.equalIn Op.maxDepth 50 (.func (.func 45) #[] #[.pointer (some ⟨b, 0, none⟩)]) .nilFunc).run Try.prog wx = .ok false wx := e 9999
  simp [binOp, Op.equal, run_underlying h]
  rw [e2]; rfl

set_option maxRecDepth 100000 in
set_option maxHeartbeats 2000000 in
theorem told12_any (p q : Nat) (a0 : Option Addr) (cap0 n : Nat) (l : List Int) (hn : n = l.length) (id : Int) (w : World) (hx : FX w p l q) (ho : IdsOk l q) (r0 : Rd w .i64 a0 cap0 l) :
    Calls Try.prog 32 #[.pointer (some ⟨p, 0, none⟩), .slice a0 n cap0, .int .i64 (q : Int), .int .i64 id] w fun e w' => e = .returned (.bool true) ∧ Kp [] w w' := by
  have HN := Lib.hid hn
  have HX0 := Lib.hid hx
  have HO := Lib.hid ho
  have HR0 := Lib.hid r0
  have hb : n ≤ 1000000 := by rw [hn]; exact ho.hn
  have hq := ho.hq
  have hw2 := ho.rng
  obtain ⟨wd, hwd⟩ : ∃ wd, wd = wdF q := ⟨_, rfl⟩
  rw [← hwd] at hw2
  have HWD := Lib.hid hwd
  clear hn hx ho r0 hwd
  refine (callsIn_wide (n := 5)).1 ?_
  refine callsIn_of_wp_marks Try.func32 rfl trivial ?_ rfl
  simp only [Try.ntmps32, List.size_toArray, List.length_cons, List.length_nil, Nat.reduceAdd, Nat.reduceSub, Array.replicate_succ, Array.replicate_zero, List.push_toArray, List.append_toArray, List.nil_append, List.cons_append]
  refine wpIn_wide.2 ?_
  go_upto_region 1 with (fail)
  have kp1 : Kp [] w (((w.alloc (.cells #[.slice a0 n cap0] 39)).alloc (.cells #[.int .i64 id] 3)).alloc (.cells #[.bool false] 4)) := (((Kp.refl [] w).alloc _).alloc _).alloc _
  have b5 := ((Boxed.new w 39 (.slice a0 n cap0)).alloc (.cells #[.int .i64 id] 3)).alloc (.cells #[.bool false] 4)
  have b7 := (Boxed.new (w.alloc (.cells #[.slice a0 n cap0] 39)) 3 (.int .i64 id)).alloc (.cells #[.bool false] 4)
  have b8 := Boxed.new ((w.alloc (.cells #[.slice a0 n cap0] 39)).alloc (.cells #[.int .i64 id] 3)) 4 (.bool false)
  rw [World.size_alloc] at b7
  rw [World.size_alloc, World.size_alloc] at b8
  generalize ((w.alloc (.cells #[.slice a0 n cap0] 39)).alloc (.cells #[.int .i64 id] 3)).alloc (.cells #[.bool false] 4) = w1 at *
  have HK1 := Lib.hid kp1
  have HX1 := Lib.hid (HX0.out.keep kp1)
  have HR1 := Lib.hid (HR0.out.keep0 kp1)
  have HB5 := Lib.hid b5
  have HB7 := Lib.hid b7
  have HB8 := Lib.hid b8
  have HC5 := Lib.hid b5.cell
  obtain ⟨M, hM⟩ : ∃ M, M = (imgF l q).length := ⟨_, rfl⟩
  have hM2 : M = 9 + sizeN n wd := by rw [hM, imgF_length, HN.out, HWD.out]
  have hM3 : M ≤ 100000000 := by
    have := sizeN_lt n wd
    have h3 : n * wd ≤ 1000000 * 24 := Nat.mul_le_mul hb hw2.2
    omega
  have HBY : Hid (∀ wx, FX wx p l q → Calls Try.prog 27 #[.pointer (some ⟨p, 0, none⟩)] wx fun e w' => ∃ ad' cap', e = .returned (.slice ad' M cap') ∧ Own w' wx.heap.size 5 .u8 ad' cap' (imgF l q) ∧ Kp [] wx w') := Lib.hid (fun wx h => by rw [hM2, HN.out, HWD.out]; exact h.bytes HO.out)
  have HBR : Hid (∀ wx, Rd wx .i64 a0 cap0 l → Calls Try.prog 48 #[.slice a0 n cap0, .int .i64 (q : Int)] wx fun e w' => ∃ ad cap, e = .returned (.slice ad M cap) ∧ Own w' wx.heap.size 5 .u8 ad cap (imgF l q) ∧ Kp [] wx w') := Lib.hid (fun wx h => by rw [hM2, HWD.out]; exact r12Bytes_any a0 cap0 n l q HN.out HO.out wx h)
  have HM := Lib.hid hM
  have hs1 := kp1.size
  clear kp1 b5 b7 b8 hM hM2
  refine wp_region_K (by kernel_rfl) [.val (.pointer (some ⟨p, 0, none⟩)), .val (.bool false), .val (.bool false), .val (.pointer (some ⟨p, 0, none⟩)), .val (.int .i64 (n : Int)), .val (.slice a0 n cap0), .val (.int .i64 ((n : Nat) : Int)), .val (.bool false), .val (.bool false), .val (.bool false), .val (.pointer (some ⟨p, 0, none⟩)), .val (.int .i64 (q : Int)), .val (.int .i64 (q : Int)), .val (.bool false), .val (.bool false), .val (.bool false), .val (.pointer (some ⟨p, 0, none⟩)), .val (.int .i64 (wd : Int)), .val (.int .i64 (q : Int)), .val (.int .i64 (wd : Int)), .val (.bool false), .val (.bool false), .val (.bool false), .val (.pointer (some ⟨p, 0, none⟩)), .own w1.heap.size 5 .u8 M (imgF l q), .val (.string (strOfNums (imgF l q))), .val (.slice a0 n cap0), .val (.int .i64 (q : Int)), .own w1.heap.size 5 .u8 M (imgF l q), .val (.string (strOfNums (imgF l q))), .val (.bool false), .val (.bool false)] [[(0, none)], [(17, some 0)], [(18, some 1)], [(19, some 2), (0, none)], [(19, some 2), (20, some 3)], [(19, some 2), (5, none)], [(19, some 2), (22, some 5)], [(19, some 2), (21, some 4), (23, some 6)], [(19, some 2), (24, some 7)], [(25, some 8)], [(26, some 9), (0, none)], [(26, some 9), (27, some 10)], [(26, some 9), (2, none)], [(26, some 9), (28, some 11), (29, some 12)], [(26, some 9), (30, some 13)], [(31, some 14)], [(32, some 15), (0, none)], [(32, some 15), (33, some 16)], [(32, some 15), (2, none)], [(32, some 15), (35, some 18)], [(32, some 15), (34, some 17), (36, some 19)], [(32, some 15), (37, some 20)], [(38, some 21)], [(39, some 22), (0, none)], [(39, some 22), (40, some 23)], [(39, some 22), (41, some 24)], [(39, some 22), (5, none)], [(39, some 22), (2, none)], [(39, some 22), (43, some 26), (44, some 27)], [(39, some 22), (45, some 28)], [(39, some 22), (42, some 25), (46, some 29)], [(39, some 22), (47, some 30)]] rfl (by kernel_rfl) ?_ ?_
  · refine ⟨?o0, ?o1, ?o2, ?o3, ?o4, ?o5, ?o6, ?o7, ?o8, ?o9, ?o10, ?o11, ?o12, ?o13, ?o14, ?o15, ?o16, ?o17, ?o18, ?o19, ?o20, ?o21, ?o22, ?o23, ?o24, ?o25, ?o26, ?o27, ?o28, ?o29, ?o30, ?o31, trivial⟩
    case o0 => intro aR wR hR; replace hR := hR.undrew; intro (h0 : aR.tmps[0]? = some (.pointer (some ⟨p, 0, none⟩))); exact exec_val (c := .pointer (some ⟨p, 0, none⟩)) (wanted_none rfl) (by go_simp) rfl
    case o1 => intro aR wR hR; replace hR := hR.undrew; intro v17 h17 e17; replace e17 : v17 = .pointer (some ⟨p, 0, none⟩) := e17; subst e17; exact exec_val (c := .bool false) (wanted_none rfl) (by go_simp) rfl
    case o2 => intro aR wR hR; replace hR := hR.undrew; intro v18 h18 e18; replace e18 : v18 = .bool false := e18; subst e18; exact exec_val (c := .bool false) (wanted_none rfl) (by go_simp) rfl
    case o3 => intro aR wR hR; replace hR := hR.undrew; intro v19 h19 e19; replace e19 : v19 = .bool false := e19; subst e19; intro (h0 : aR.tmps[0]? = some (.pointer (some ⟨p, 0, none⟩))); exact exec_val (c := .pointer (some ⟨p, 0, none⟩)) (wanted_yes (b := false) (t := 19) rfl rfl h19) (by go_simp) rfl
    case o4 => intro aR wR hR; replace hR := hR.undrew; intro v19 h19 e19; replace e19 : v19 = .bool false := e19; subst e19; intro v20 h20 e20; replace e20 : v20 = .pointer (some ⟨p, 0, none⟩) := e20; subst e20; refine exec_call (wanted_yes (b := false) (t := 19) rfl rfl h19) (by go_simp; exact ⟨rfl, rfl⟩) ?_; refine ((HX1.out.keep hR).len HO.out).mono ?_; rintro e7 w8 ⟨rfl, h8⟩; subst w8; exact ⟨_, rfl, by rw [HN.out]; rfl, Kp.refl _ _⟩
    case o5 => intro aR wR hR; replace hR := hR.undrew; intro v19 h19 e19; replace e19 : v19 = .bool false := e19; subst e19; intro (h5 : aR.tmps[5]? = some (.pointer (some ⟨w.heap.size, 0, none⟩))); (have hc := hR.cell HC5.out (by simp)); exact exec_val (c := .slice a0 n cap0) (wanted_yes (b := false) (t := 19) rfl rfl h19) (by go_simp) rfl
    case o6 => intro aR wR hR; replace hR := hR.undrew; intro v19 h19 e19; replace e19 : v19 = .bool false := e19; subst e19; intro v22 h22 e22; replace e22 : v22 = .slice a0 n cap0 := e22; subst e22; exact exec_val (c := .int .i64 ((n : Nat) : Int)) (wanted_yes (b := false) (t := 19) rfl rfl h19) (by go_simp) rfl
    case o7 => intro aR wR hR; replace hR := hR.undrew; intro v19 h19 e19; replace e19 : v19 = .bool false := e19; subst e19; intro v21 h21 e21; replace e21 : v21 = .int .i64 (n : Int) := e21; subst e21; intro v23 h23 e23; replace e23 : v23 = .int .i64 ((n : Nat) : Int) := e23; subst e23; exact exec_val (c := .bool false) (wanted_yes (b := false) (t := 19) rfl rfl h19) (by go_simp) rfl
    case o8 => intro aR wR hR; replace hR := hR.undrew; intro v19 h19 e19; replace e19 : v19 = .bool false := e19; subst e19; intro v24 h24 e24; replace e24 : v24 = .bool false := e24; subst e24; exact exec_val (c := .bool false) (wanted_none rfl) (by go_simp) rfl
    case o9 => intro aR wR hR; replace hR := hR.undrew; intro v25 h25 e25; replace e25 : v25 = .bool false := e25; subst e25; exact exec_val (c := .bool false) (wanted_none rfl) (by go_simp) rfl
    case o10 => intro aR wR hR; replace hR := hR.undrew; intro v26 h26 e26; replace e26 : v26 = .bool false := e26; subst e26; intro (h0 : aR.tmps[0]? = some (.pointer (some ⟨p, 0, none⟩))); exact exec_val (c := .pointer (some ⟨p, 0, none⟩)) (wanted_yes (b := false) (t := 26) rfl rfl h26) (by go_simp) rfl
    case o11 => intro aR wR hR; replace hR := hR.undrew; intro v26 h26 e26; replace e26 : v26 = .bool false := e26; subst e26; intro v27 h27 e27; replace e27 : v27 = .pointer (some ⟨p, 0, none⟩) := e27; subst e27; refine exec_call (wanted_yes (b := false) (t := 26) rfl rfl h26) (by go_simp; exact ⟨rfl, rfl⟩) ?_; refine ((HX1.out.keep hR).many HO.out).mono ?_; rintro e7 w8 ⟨rfl, h8⟩; subst w8; exact ⟨_, rfl, rfl, Kp.refl _ _⟩
    case o12 => intro aR wR hR; replace hR := hR.undrew; intro v26 h26 e26; replace e26 : v26 = .bool false := e26; subst e26; intro (h2 : aR.tmps[2]? = some (.int .i64 (q : Int))); exact exec_val (c := .int .i64 (q : Int)) (wanted_yes (b := false) (t := 26) rfl rfl h26) (by go_simp) rfl
    case o13 => intro aR wR hR; replace hR := hR.undrew; intro v26 h26 e26; replace e26 : v26 = .bool false := e26; subst e26; intro v28 h28 e28; replace e28 : v28 = .int .i64 (q : Int) := e28; subst e28; intro v29 h29 e29; replace e29 : v29 = .int .i64 (q : Int) := e29; subst e29; exact exec_val (c := .bool false) (wanted_yes (b := false) (t := 26) rfl rfl h26) (by go_simp) rfl
    case o14 => intro aR wR hR; replace hR := hR.undrew; intro v26 h26 e26; replace e26 : v26 = .bool false := e26; subst e26; intro v30 h30 e30; replace e30 : v30 = .bool false := e30; subst e30; exact exec_val (c := .bool false) (wanted_none rfl) (by go_simp) rfl
    case o15 => intro aR wR hR; replace hR := hR.undrew; intro v31 h31 e31; replace e31 : v31 = .bool false := e31; subst e31; exact exec_val (c := .bool false) (wanted_none rfl) (by go_simp) rfl
    case o16 => intro aR wR hR; replace hR := hR.undrew; intro v32 h32 e32; replace e32 : v32 = .bool false := e32; subst e32; intro (h0 : aR.tmps[0]? = some (.pointer (some ⟨p, 0, none⟩))); exact exec_val (c := .pointer (some ⟨p, 0, none⟩)) (wanted_yes (b := false) (t := 32) rfl rfl h32) (by go_simp) rfl
    case o17 => intro aR wR hR; replace hR := hR.undrew; intro v32 h32 e32; replace e32 : v32 = .bool false := e32; subst e32; intro v33 h33 e33; replace e33 : v33 = .pointer (some ⟨p, 0, none⟩) := e33; subst e33; refine exec_call (wanted_yes (b := false) (t := 32) rfl rfl h32) (by go_simp; exact ⟨rfl, rfl⟩) ?_; refine ((HX1.out.keep hR).width HO.out).mono ?_; rintro e7 w8 ⟨rfl, h8⟩; subst w8; exact ⟨_, rfl, by rw [HWD.out]; rfl, Kp.refl _ _⟩
    case o18 => intro aR wR hR; replace hR := hR.undrew; intro v32 h32 e32; replace e32 : v32 = .bool false := e32; subst e32; intro (h2 : aR.tmps[2]? = some (.int .i64 (q : Int))); exact exec_val (c := .int .i64 (q : Int)) (wanted_yes (b := false) (t := 32) rfl rfl h32) (by go_simp) rfl
    case o19 => intro aR wR hR; replace hR := hR.undrew; intro v32 h32 e32; replace e32 : v32 = .bool false := e32; subst e32; intro v35 h35 e35; replace e35 : v35 = .int .i64 (q : Int) := e35; subst e35; refine exec_call (wanted_yes (b := false) (t := 32) rfl rfl h32) (by go_simp; exact ⟨rfl, rfl⟩) ?_; refine (r12Width_any q wR hq).mono ?_; rintro e7 w8 ⟨rfl, h8⟩; subst w8; exact ⟨_, rfl, by rw [HWD.out]; rfl, Kp.refl _ _⟩
    case o20 => intro aR wR hR; replace hR := hR.undrew; intro v32 h32 e32; replace e32 : v32 = .bool false := e32; subst e32; intro v34 h34 e34; replace e34 : v34 = .int .i64 (wd : Int) := e34; subst e34; intro v36 h36 e36; replace e36 : v36 = .int .i64 (wd : Int) := e36; subst e36; exact exec_val (c := .bool false) (wanted_yes (b := false) (t := 32) rfl rfl h32) (by go_simp) rfl
    case o21 => intro aR wR hR; replace hR := hR.undrew; intro v32 h32 e32; replace e32 : v32 = .bool false := e32; subst e32; intro v37 h37 e37; replace e37 : v37 = .bool false := e37; subst e37; exact exec_val (c := .bool false) (wanted_none rfl) (by go_simp) rfl
    case o22 => intro aR wR hR; replace hR := hR.undrew; intro v38 h38 e38; replace e38 : v38 = .bool false := e38; subst e38; exact exec_val (c := .bool false) (wanted_none rfl) (by go_simp) rfl
    case o23 => intro aR wR hR; replace hR := hR.undrew; intro v39 h39 e39; replace e39 : v39 = .bool false := e39; subst e39; intro (h0 : aR.tmps[0]? = some (.pointer (some ⟨p, 0, none⟩))); exact exec_val (c := .pointer (some ⟨p, 0, none⟩)) (wanted_yes (b := false) (t := 39) rfl rfl h39) (by go_simp) rfl
    case o24 => intro aR wR hR; replace hR := hR.undrew; intro v39 h39 e39; replace e39 : v39 = .bool false := e39; subst e39; intro v40 h40 e40; replace e40 : v40 = .pointer (some ⟨p, 0, none⟩) := e40; subst e40; refine exec_call (wanted_yes (b := false) (t := 39) rfl rfl h39) (by go_simp; exact ⟨rfl, rfl⟩) ?_; refine (HBY.out wR (HX1.out.keep hR)).mono ?_; rintro e7 w8 ⟨ad, cap, rfl, ho8, kp8⟩; exact ⟨_, rfl, ⟨ad, cap, rfl, ho8.mono hR.size⟩, kp8⟩
    case o25 => intro aR wR hR; replace hR := hR.undrew; intro v39 h39 e39; replace e39 : v39 = .bool false := e39; subst e39; intro v41 h41 e41; (obtain ⟨ad, cap, rfl, ho⟩ := e41; have hcv := conv_str wR 24 9 5 Try.underlying24 Try.underlying5 Try.underlying9 ad cap M (imgF l q) ho.rd HM.out); exact exec_val (c := .string (strOfNums (imgF l q))) (wanted_yes (b := false) (t := 39) rfl rfl h39) (by go_simp) rfl
    case o26 => intro aR wR hR; replace hR := hR.undrew; intro v39 h39 e39; replace e39 : v39 = .bool false := e39; subst e39; intro (h5 : aR.tmps[5]? = some (.pointer (some ⟨w.heap.size, 0, none⟩))); (have hc := hR.cell HC5.out (by simp)); exact exec_val (c := .slice a0 n cap0) (wanted_yes (b := false) (t := 39) rfl rfl h39) (by go_simp) rfl
    case o27 => intro aR wR hR; replace hR := hR.undrew; intro v39 h39 e39; replace e39 : v39 = .bool false := e39; subst e39; intro (h2 : aR.tmps[2]? = some (.int .i64 (q : Int))); exact exec_val (c := .int .i64 (q : Int)) (wanted_yes (b := false) (t := 39) rfl rfl h39) (by go_simp) rfl
    case o28 => intro aR wR hR; replace hR := hR.undrew; intro v39 h39 e39; replace e39 : v39 = .bool false := e39; subst e39; intro v43 h43 e43; replace e43 : v43 = .slice a0 n cap0 := e43; subst e43; intro v44 h44 e44; replace e44 : v44 = .int .i64 (q : Int) := e44; subst e44; refine exec_call (wanted_yes (b := false) (t := 39) rfl rfl h39) (by go_simp; exact ⟨rfl, rfl⟩) ?_; refine (HBR.out wR (HR1.out.keep0 hR)).mono ?_; rintro e7 w8 ⟨ad, cap, rfl, ho8, kp8⟩; exact ⟨_, rfl, ⟨ad, cap, rfl, ho8.mono hR.size⟩, kp8⟩
    case o29 => intro aR wR hR; replace hR := hR.undrew; intro v39 h39 e39; replace e39 : v39 = .bool false := e39; subst e39; intro v45 h45 e45; (obtain ⟨ad, cap, rfl, ho⟩ := e45; have hcv := conv_str wR 24 9 5 Try.underlying24 Try.underlying5 Try.underlying9 ad cap M (imgF l q) ho.rd HM.out); exact exec_val (c := .string (strOfNums (imgF l q))) (wanted_yes (b := false) (t := 39) rfl rfl h39) (by go_simp) rfl
    case o30 => intro aR wR hR; replace hR := hR.undrew; intro v39 h39 e39; replace e39 : v39 = .bool false := e39; subst e39; intro v42 h42 e42; replace e42 : v42 = .string (strOfNums (imgF l q)) := e42; subst e42; intro v46 h46 e46; replace e46 : v46 = .string (strOfNums (imgF l q)) := e46; subst e46; exact exec_val (c := .bool false) (wanted_yes (b := false) (t := 39) rfl rfl h39) (by go_simp) rfl
    case o31 => intro aR wR hR; replace hR := hR.undrew; intro v39 h39 e39; replace e39 : v39 = .bool false := e39; subst e39; intro v47 h47 e47; replace e47 : v47 = .bool false := e47; subst e47; exact exec_val (c := .bool false) (wanted_none rfl) (by go_simp) rfl
  · intro vs wR hR hV
    obtain ⟨e0, e1, e2, e3, e4, e5, e6, e7, e8, e9, e10, e11, e12, e13, e14, e15, e16, e17, e18, e19, e20, e21, e22, e23, e24, e25, e26, e27, e28, e29, e30, e31, -⟩ := hV
    replace e0 : vs 0 = .pointer (some ⟨p, 0, none⟩) := e0
    replace e1 : vs 1 = .bool false := e1
    replace e2 : vs 2 = .bool false := e2
    replace e3 : vs 3 = .pointer (some ⟨p, 0, none⟩) := e3
    replace e4 : vs 4 = .int .i64 (n : Int) := e4
    replace e5 : vs 5 = .slice a0 n cap0 := e5
    replace e6 : vs 6 = .int .i64 ((n : Nat) : Int) := e6
    replace e7 : vs 7 = .bool false := e7
    replace e8 : vs 8 = .bool false := e8
    replace e9 : vs 9 = .bool false := e9
    replace e10 : vs 10 = .pointer (some ⟨p, 0, none⟩) := e10
    replace e11 : vs 11 = .int .i64 (q : Int) := e11
    replace e12 : vs 12 = .int .i64 (q : Int) := e12
    replace e13 : vs 13 = .bool false := e13
    replace e14 : vs 14 = .bool false := e14
    replace e15 : vs 15 = .bool false := e15
    replace e16 : vs 16 = .pointer (some ⟨p, 0, none⟩) := e16
    replace e17 : vs 17 = .int .i64 (wd : Int) := e17
    replace e18 : vs 18 = .int .i64 (q : Int) := e18
    replace e19 : vs 19 = .int .i64 (wd : Int) := e19
    replace e20 : vs 20 = .bool false := e20
    replace e21 : vs 21 = .bool false := e21
    replace e22 : vs 22 = .bool false := e22
    replace e23 : vs 23 = .pointer (some ⟨p, 0, none⟩) := e23
    replace e25 : vs 25 = .string (strOfNums (imgF l q)) := e25
    replace e26 : vs 26 = .slice a0 n cap0 := e26
    replace e27 : vs 27 = .int .i64 (q : Int) := e27
    replace e29 : vs 29 = .string (strOfNums (imgF l q)) := e29
    replace e30 : vs 30 = .bool false := e30
    replace e31 : vs 31 = .bool false := e31
    simp only [putAll, e0, e1, e2, e3, e4, e5, e6, e7, e8, e9, e10, e11, e12, e13, e14, e15, e16, e17, e18, e19, e20, e21, e22, e23, e25, e26, e27, e29, e30, e31, Nat.reduceAdd, Nat.zero_add]
    clear e0 e1 e2 e3 e4 e5 e6 e7 e8 e9 e10 e11 e12 e13 e14 e15 e16 e17 e18 e19 e20 e21 e22 e23 e25 e26 e27 e29 e30 e31
    try simp only [List.setIfInBounds_toArray, List.set_cons_succ, List.set_cons_zero]
    have kp2 : Kp [] w1 wR := hR
    have c5 := kp2.get HB5.out (by simp)
    have c7 := kp2.get HB7.out (by simp)
    have c8 := kp2.get HB8.out (by simp)
    have HK2 := Lib.hid (HK1.out.tr kp2)
    have hs2 := HK2.out.size
    obtain ⟨w2, hw2'⟩ : ∃ w2, w2 = wR := ⟨_, rfl⟩
    rw [← hw2'] at kp2 c5 c7 c8 HK2 hs2 ⊢
    clear hw2' kp2 HBY HBR HB5 HB7 HB8 HC5
    have HX2 := Lib.hid (HX0.out.keep HK2.out)
    have hfn := func_not_nil
    go_wp2_with fail
    refine (fAll_any _ p).mono ?_
    rintro e w7 ⟨rfl, rfl⟩
    go_wp2_with fail
    refine (fAll_any _ p).mono ?_
    rintro e w7 ⟨rfl, rfl⟩
    go_wp2_with fail
    clear hfn e24 e28 hR hM3 HM HX1 HR1 HK1
    have kp3 : Kp [] w2 ((((w2.alloc (.cells #[.int .i64 0] 3)).alloc (.cells #[.int .i64 0] 3)).alloc (.cells #[.pointer (some ⟨p, 0, none⟩)] 40)).alloc (.cells #[.pointer (some ⟨p, 0, none⟩)] 40)) := ((((Kp.refl [] w2).alloc _).alloc _).alloc _).alloc _
    have b9 := (((Boxed.new w2 3 (.int .i64 0)).alloc (.cells #[.int .i64 0] 3)).alloc (.cells #[.pointer (some ⟨p, 0, none⟩)] 40)).alloc (.cells #[.pointer (some ⟨p, 0, none⟩)] 40)
    have b10 := ((Boxed.new (w2.alloc (.cells #[.int .i64 0] 3)) 3 (.int .i64 0)).alloc (.cells #[.pointer (some ⟨p, 0, none⟩)] 40)).alloc (.cells #[.pointer (some ⟨p, 0, none⟩)] 40)
    have bX := Boxed.new (((w2.alloc (.cells #[.int .i64 0] 3)).alloc (.cells #[.int .i64 0] 3)).alloc (.cells #[.pointer (some ⟨p, 0, none⟩)] 40)) 40 (.pointer (some ⟨p, 0, none⟩))
    rw [World.size_alloc] at b10
    rw [World.size_alloc, World.size_alloc, World.size_alloc] at bX
    generalize (((w2.alloc (.cells #[.int .i64 0] 3)).alloc (.cells #[.int .i64 0] 3)).alloc (.cells #[.pointer (some ⟨p, 0, none⟩)] 40)).alloc (.cells #[.pointer (some ⟨p, 0, none⟩)] 40) = w3 at *
    have b5 : Boxed w3 w.heap.size 39 (.slice a0 n cap0) := kp3.get c5 (by simp)
    have b7 : Boxed w3 (w.heap.size + 1) 3 (.int .i64 id) := kp3.get c7 (by simp)
    have b8 : Boxed w3 (w.heap.size + 1 + 1) 4 (.bool false) := kp3.get c8 (by simp)
    have hs28 : w.heap.size + 1 + 1 < w2.heap.size := lt_of_heap c8
    have hB3 : Below w.heap.size w w3 := (HK2.out.tr kp3).below
    obtain ⟨ad, cap, hI⟩ := HX0.out
    have hsX := bX.lt
    have hs3 := hB3.size
    refine (wpIn_wide (n := 5)).1 ?_
    apply wpIn_rangeFunc_ownG (Kp := KB w.heap.size (w2.heap.size + 1 + 1 + 1)) (encs := fun x : Nat × Nat => #[Value.int .i64 (x.1 : Int), Value.int .i64 (x.2 : Int)]) rfl (by omega) (gf := 45) (lb := #[.pointer (some ⟨w2.heap.size + 1 + 1 + 1, 0, none⟩)]) rfl trivial (enters_of Try.func45 (by kernel_rfl) rfl)
      (fAll_stops 4 (by omega) (w2.heap.size + 1 + 1 + 1) w.heap.size p l.length q (wdF q) ad cap (packs (wdF q) l) (packs_bytes _ _) HO.out.rng.1 HO.out.rng.2 (Nat.le_trans HO.out.hn (by omega)) _ bX.cell bX.lt (hI.below hB3) hB3.size) KB.trans (kb_b hB3.size bX.lt) (Below.refl _ _) (fun _ => rfl)
      (fun (pre : List (Nat × Nat)) W => Boxed W w.heap.size 39 (.slice a0 n cap0) ∧ Boxed W (w.heap.size + 1) 3 (.int .i64 id) ∧ Boxed W (w.heap.size + 1 + 1) 4 (.bool false) ∧ Boxed W w2.heap.size 3 (.int .i64 (pre.length : Nat)) ∧ Boxed W (w2.heap.size + 1) 3 (.int .i64 (cntF id pre : Nat)) ∧ pre = uptoF (fun j => (j, idG (packs (wdF q) l) (wdF q) j)) pre.length ∧ Below w.heap.size w W)
      (fun _ (pre : List (Nat × Nat)) _ => ¬ ∃ k, k ≤ l.length ∧ pre = uptoF (fun j => (j, idG (packs (wdF q) l) (wdF q) j)) k)
      (OwnFrom.and (Own.from (boxed_own _ _ _) _) (OwnFrom.and (Own.from (boxed_own _ _ _) _) (OwnFrom.and (Own.from (boxed_own _ _ _) _) (OwnFrom.and (Own.from (boxed_own _ _ (fun (pre : List (Nat × Nat)) => .int .i64 (pre.length : Nat))) _) (OwnFrom.and (Own.from (boxed_own _ _ (fun (pre : List (Nat × Nat)) => .int .i64 (cntF id pre : Nat))) _) (OwnFrom.and (ownFrom_pure _ _) (ownFrom_below (Nat.le_refl _) hB3.size)))))))
      (fun _ => ownFrom_pure _ _)
      ⟨b5, b7, b8, b9, b10, rfl, hB3⟩
    case hassign =>
      intro l x W K hK
      gi_wp2
      exact hK
    case hbody =>
      rintro l' pre x W ⟨d5, d7, d8, d9, d10, hpre, hB⟩ hlen
      have HB := Lib.hid hB
      have HP := Lib.hid hpre
      obtain ⟨k, hk⟩ : ∃ k, k = pre.length := ⟨_, rfl⟩
      have hct := cntF_le id pre
      rw [← hk] at d9 hlen hct
      obtain ⟨ct, hct'⟩ : ∃ ct, ct = cntF id pre := ⟨_, rfl⟩
      rw [← hct'] at d10 hct
      have HKK := Lib.hid hk
      have HCT := Lib.hid hct'
      obtain ⟨u, v⟩ := x
      obtain ⟨bb, off, rfl, hc0⟩ := (HR0.out.keep0 (below_kp hB)).2.2 k hlen
      have HV : Hid (idG (packs (wdF q) l) (wdF q) k = (nth l k).toNat) := Lib.hid (by unfold idG; rw [leN_packs _ l HO.out.fit, gets_vn _ l HO.out.fit k hlen])
      have hz0 := (HO.out.ids k hlen).1
      obtain ⟨z, hz⟩ : ∃ z, z = nth l k := ⟨_, rfl⟩
      rw [← hz] at hc0 hz0
      have HZ := Lib.hid hz
      rw [← HN.out] at hlen
      have e5 := d5.cell
      have e7 := d7.cell
      have e8 := d8.cell
      have e9 := d9.cell
      have e10 := d10.cell
      have f8 := d8.frozen
      have f9 := d9.frozen
      have f10 := d10.frozen
      have D5 := Lib.hid d5
      have D7 := Lib.hid d7
      have D8 := Lib.hid d8
      have D9 := Lib.hid d9
      have D10 := Lib.hid d10
      have hw1 : IntKind.i64.wrap ((k : Int) + 1) = (k : Int) + 1 := IntWalk.i64_in _ (by omega)
      have hw4 : IntKind.i64.wrap ((ct : Int) + 1) = (ct : Int) + 1 := IntWalk.i64_in _ (by omega)
      clear hB hpre hk hct' hz d5 d7 d8 d9 d10
      by_cases hu : u = k
      · subst hu
        by_cases hv : (v : Int) = z
        · subst hv
          have HPN : Hid (pre ++ [(u, v)] = uptoF (fun j => (j, idG (packs (wdF q) l) (wdF q) j)) (pre ++ [(u, v)]).length) := Lib.hid (by
            rw [List.length_append, List.length_cons, List.length_nil, uptoF_succ, ← HP.out, ← HKK.out, HV.out, ← HZ.out]; simp)
          have HLN : Hid ((u : Int) + 1 = (((pre ++ [(u, v)]).length : Nat) : Int)) := Lib.hid (by simp [← HKK.out])
          have hzz : ((v : Int) != (v : Int)) = false := by simp
          by_cases hid : (v : Int) = id
          · have HCN : Hid ((ct : Int) + 1 = ((cntF id (pre ++ [(u, v)]) : Nat) : Int)) := Lib.hid (by rw [cntF_snoc, if_pos hid, ← HCT.out]; simp)
            have hid2 : ((v : Int) == id) = true := by simpa using hid
            gi_wp2
            rw [HCN.out, HLN.out]
            exact ⟨((KeepsOthers.setCell _ _ _).trans (KeepsOthers.setCell _ _ _)).from _,
              ⟨((Below.refl w.heap.size W).setCell (p := ⟨w2.heap.size + 1, 0, none⟩) (by simp <;> omega) _).setCell (p := ⟨w2.heap.size, 0, none⟩) (by simp <;> omega) _, (Below.heap_setCell _ _ _ _ (by simp <;> omega)).trans (Below.heap_setCell _ _ _ _ (by simp <;> omega))⟩,
              (D5.out.other (by omega) _).other (by omega) _, (D7.out.other (by omega) _).other (by omega) _, (D8.out.other (by omega) _).other (by omega) _, (D9.out.other (by omega) _).set _, (D10.out.set _).other (by omega) _, HPN.out,
              (HB.out.setCell (p := ⟨w2.heap.size + 1, 0, none⟩) (by simp <;> omega) _).setCell (p := ⟨w2.heap.size, 0, none⟩) (by simp <;> omega) _⟩
          · have HCN : Hid ((ct : Int) = ((cntF id (pre ++ [(u, v)]) : Nat) : Int)) := Lib.hid (by rw [cntF_snoc, if_neg hid, ← HCT.out]; simp)
            have hid2 : ((v : Int) == id) = false := by simpa using hid
            gi_wp2
            rw [HLN.out]
            exact ⟨(KeepsOthers.setCell _ _ _).from _,
              ⟨(Below.refl w.heap.size W).setCell (p := ⟨w2.heap.size, 0, none⟩) (by simp <;> omega) _, Below.heap_setCell _ _ _ _ (by simp <;> omega)⟩,
              D5.out.other (by omega) _, D7.out.other (by omega) _, D8.out.other (by omega) _, D9.out.set _, by rw [← HCN.out]; exact D10.out.other (by omega) _, HPN.out,
              HB.out.setCell (p := ⟨w2.heap.size, 0, none⟩) (by simp <;> omega) _⟩
        · have hzz : ((v : Int) != z) = true := by simpa using hv
          gi_wp2
          refine ⟨(KeepsOthers.setCell _ _ _).from _, ?_⟩
          rintro ⟨k', hk', he⟩
          have := upto_last he
          rw [← HKK.out, HV.out, ← HZ.out] at this
          have := congrArg Prod.snd this
          simp at this
          omega
      · have huu : ((u : Int) != (k : Int)) = true := by simp; omega
        gi_wp2
        refine ⟨(KeepsOthers.setCell _ _ _).from _, ?_⟩
        rintro ⟨k', hk', he⟩
        have := congrArg Prod.fst (upto_last he)
        exact hu (this.trans HKK.out.symm)
    case hdone =>
      rintro D ys W hD rfl ⟨d5, d7, d8, d9, d10, -, hB⟩ hK
      rw [uptoF_length, ← HN.out] at d9
      rw [cntF_cI l (wdF q) HO.out.fit id] at d10
      have HXW := Lib.hid (HX0.out.keep (below_kp hB))
      have HRW := Lib.hid (HR0.out.keep0 (below_kp hB))
      have HB := Lib.hid hB
      have D5 := Lib.hid d5.cell
      have D7 := Lib.hid d7.cell
      have D8 := Lib.hid d8
      have D9 := Lib.hid d9.cell
      have D10 := Lib.hid d10.cell
      have HDK := Lib.hid hK
      have HDW := Lib.hid hD
      clear hB d5 d7 d8 d9 d10 hK hD
      clear b5 b7 b8 b9 b10 bX hsX hB3 hI c5 c7 c8 hs28 kp3
      go_wp2_with fail
      go_loopw [13, 14, 15, 16] (fun vi _ _ _ wr => ∃ i : Int, -1 ≤ i ∧ i ≤ (n : Int) + 1 ∧ vi = .int .i64 i ∧ Hid (Kp [] W wr)) (fun vi _ _ _ _ => ((n : Int) + 2 - intOf vi).toNat)
      case atStart => exact ⟨-1, by omega, by omega, rfl, Lib.hid (Kp.refl _ _)⟩
      case round =>
        obtain ⟨i, hi1, hi2, rfl, HKR⟩ := hrel
        obtain ⟨wo, rfl⟩ : ∃ wo : World, wo = wr := ⟨_, rfl⟩
        have c5 := HKR.out.cell D5.out (by simp)
        by_cases hlt : i ≤ (n : Int)
        · have hw1 : IntKind.i64.wrap (i + 1) = i + 1 := IntWalk.i64_in _ (by omega)
          by_cases hin : 0 ≤ i ∧ i < (n : Int)
          · obtain ⟨j, rfl⟩ := Int.eq_ofNat_of_zero_le hin.1
            have hjl : j < l.length := by rw [← HN.out]; omega
            obtain ⟨z, hz⟩ : ∃ z, z = nth l j := ⟨_, rfl⟩
            have hget := (HXW.out.keep HKR.out).get HO.out j hjl
            rw [← hz] at hget
            have HG := Lib.hid hget
            have HZ := Lib.hid hz
            have hjn : j < n := by omega
            have hzz : (z != z) = false := by simp
            clear hget hz
            go_wp2_with fail
            refine HG.out.mono ?_
            rintro e w5 ⟨rfl, kp5⟩
            have c5' := kp5.cell c5 (by simp)
            have HK5 := Lib.hid (HKR.out.tr kp5)
            obtain ⟨bb, off, hab, hc0⟩ := (HRW.out.keep0 HK5.out).2.2 j hjl
            subst hab
            rw [← HZ.out] at hc0
            clear kp5 c5 hjl
            go_wp2_with fail
            go_roundw
            case rel => exact ⟨(j : Int) + 1, by omega, by omega, by go_num, HK5⟩
            case measure => simp only [intOf]; omega
          · have hget := (HXW.out.keep HKR.out).out HO.out i (by rw [← HN.out]; exact hin)
            by_cases h0 : i < 0
            · have h02 : ¬ 0 ≤ i := by omega
              go_wp2_with fail
              refine hget.mono ?_
              rintro e w5 ⟨rfl, h5⟩
              subst w5
              go_wp2_with fail
              go_roundw
              case rel => exact ⟨i + 1, by omega, by omega, by go_num, HKR⟩
              case measure => simp only [intOf]; omega
            · have h02 : 0 ≤ i := by omega
              have h03 : ¬ i < (n : Int) := by omega
              go_wp2_with fail
              refine hget.mono ?_
              rintro e w5 ⟨rfl, h5⟩
              subst w5
              go_wp2_with fail
              go_roundw
              case rel => exact ⟨i + 1, by omega, by omega, by go_num, HKR⟩
              case measure => simp only [intOf]; omega
        · obtain rfl : i = (n : Int) + 1 := by omega
          have c7 := HKR.out.cell D7.out (by simp)
          have c9 := HKR.out.cell D9.out (by simp)
          have c10 := HKR.out.cell D10.out (by simp)
          have hwn : IntKind.i64.wrap (n : Int) = (n : Int) := IntWalk.i64_in _ (by omega)
          obtain ⟨ct, hct⟩ : ∃ ct, ct = cI id l := ⟨_, rfl⟩
          rw [← hct] at c10
          have HCT := Lib.hid hct
          have HC5 := Lib.hid c5
          have HC7 := Lib.hid c7
          have HC9 := Lib.hid c9
          have HC10 := Lib.hid c10
          clear hct c7 c9 c10
          go_upto_region 21 with (fail)
          refine wp_region_GS (by kernel_rfl) [] [.val (.int .i64 (n : Int)), .val (.slice a0 n cap0), .val (.int .i64 ((n : Nat) : Int)), .val (.bool true), .val (.bool true), .val (.pointer (some ⟨p, 0, none⟩)), .val (.int .i64 id), .val (.int .i64 (ct : Int)), .val (.int .i64 (ct : Int)), .val (.bool true), .val (.bool true)] [[(9, none)], [(5, none)], [(126, some 1)], [(125, some 0), (127, some 2)], [(128, some 3)], [(129, some 4), (0, none)], [(129, some 4), (7, none)], [(129, some 4), (130, some 5), (131, some 6)], [(129, some 4), (10, none)], [(129, some 4), (132, some 7), (133, some 8)], [(129, some 4), (134, some 9)]] [] (fun _ _ => True) 11 rfl (by kernel_rfl) (by kernel_rfl) (by kernel_rfl) (by kernel_rfl) (by kernel_rfl) (by simp) (fun _ _ _ h _ => h) trivial ?_ ?_
          · refine (ObG.free rfl ?o0 (ObG.free rfl ?o1 (ObG.free rfl ?o2 (ObG.free rfl ?o3 (ObG.free rfl ?o4 (ObG.free rfl ?o5 (ObG.free rfl ?o6 (ObG.free rfl ?o7 (ObG.free rfl ?o8 (ObG.free rfl ?o9 (ObG.free rfl ?o10 trivial)))))))))))
            case o0 => intro aR wR mR hR hI; replace hR := hR.undrew; intro (h9 : aR.tmps[9]? = some (.pointer (some ⟨w2.heap.size, 0, none⟩))); (have hc := hR.cell HC9.out (by simp)); exact exec_val (c := .int .i64 (n : Int)) (wanted_none rfl) (by go_simp) rfl
            case o1 => intro aR wR mR hR hI; replace hR := hR.undrew; intro (h5 : aR.tmps[5]? = some (.pointer (some ⟨w.heap.size, 0, none⟩))); (have hc := hR.cell HC5.out (by simp)); exact exec_val (c := .slice a0 n cap0) (wanted_none rfl) (by go_simp) rfl
            case o2 => intro aR wR mR hR hI; replace hR := hR.undrew; intro v126 h126 e126; replace e126 : v126 = .slice a0 n cap0 := e126; subst e126; exact exec_val (c := .int .i64 ((n : Nat) : Int)) (wanted_none rfl) (by go_simp) rfl
            case o3 => intro aR wR mR hR hI; replace hR := hR.undrew; intro v125 h125 e125; replace e125 : v125 = .int .i64 (n : Int) := e125; subst e125; intro v127 h127 e127; replace e127 : v127 = .int .i64 ((n : Nat) : Int) := e127; subst e127; exact exec_val (c := .bool true) (wanted_none rfl) (by go_simp) rfl
            case o4 => intro aR wR mR hR hI; replace hR := hR.undrew; intro v128 h128 e128; replace e128 : v128 = .bool true := e128; subst e128; exact exec_val (c := .bool true) (wanted_none rfl) (by go_simp) rfl
            case o5 => intro aR wR mR hR hI; replace hR := hR.undrew; intro v129 h129 e129; replace e129 : v129 = .bool true := e129; subst e129; intro (h0 : aR.tmps[0]? = some (.pointer (some ⟨p, 0, none⟩))); exact exec_val (c := .pointer (some ⟨p, 0, none⟩)) (wanted_yes (b := true) (t := 129) rfl rfl h129) (by go_simp) rfl
            case o6 => intro aR wR mR hR hI; replace hR := hR.undrew; intro v129 h129 e129; replace e129 : v129 = .bool true := e129; subst e129; intro (h7 : aR.tmps[7]? = some (.pointer (some ⟨w.heap.size + 1, 0, none⟩))); (have hc := hR.cell HC7.out (by simp)); exact exec_val (c := .int .i64 id) (wanted_yes (b := true) (t := 129) rfl rfl h129) (by go_simp) rfl
            case o7 => intro aR wR mR hR hI; replace hR := hR.undrew; intro v129 h129 e129; replace e129 : v129 = .bool true := e129; subst e129; intro v130 h130 e130; replace e130 : v130 = .pointer (some ⟨p, 0, none⟩) := e130; subst e130; intro v131 h131 e131; replace e131 : v131 = .int .i64 id := e131; subst e131; refine exec_call (wanted_yes (b := true) (t := 129) rfl rfl h129) (by go_simp; exact ⟨rfl, rfl⟩) ?_; refine ((HXW.out.keep (HKR.out.tr hR)).count HO.out id).mono ?_; rintro e7 w8 ⟨rfl, kp8⟩; exact ⟨_, rfl, by rw [HCT.out]; rfl, kp8⟩
            case o8 => intro aR wR mR hR hI; replace hR := hR.undrew; intro v129 h129 e129; replace e129 : v129 = .bool true := e129; subst e129; intro (h10 : aR.tmps[10]? = some (.pointer (some ⟨w2.heap.size + 1, 0, none⟩))); (have hc := hR.cell HC10.out (by simp)); exact exec_val (c := .int .i64 (ct : Int)) (wanted_yes (b := true) (t := 129) rfl rfl h129) (by go_simp) rfl
            case o9 => intro aR wR mR hR hI; replace hR := hR.undrew; intro v129 h129 e129; replace e129 : v129 = .bool true := e129; subst e129; intro v132 h132 e132; replace e132 : v132 = .int .i64 (ct : Int) := e132; subst e132; intro v133 h133 e133; replace e133 : v133 = .int .i64 (ct : Int) := e133; subst e133; exact exec_val (c := .bool true) (wanted_yes (b := true) (t := 129) rfl rfl h129) (by go_simp) rfl
            case o10 => intro aR wR mR hR hI; replace hR := hR.undrew; intro v129 h129 e129; replace e129 : v129 = .bool true := e129; subst e129; intro v134 h134 e134; replace e134 : v134 = .bool true := e134; subst e134; exact exec_val (c := .bool true) (wanted_none rfl) (by go_simp) rfl
          · intro vs wR hR hI hV
            obtain ⟨e0, e1, e2, e3, e4, e5, e6, e7, e8, e9, e10, -⟩ := hV
            replace e0 : vs 0 = .int .i64 (n : Int) := e0
            replace e1 : vs 1 = .slice a0 n cap0 := e1
            replace e2 : vs 2 = .int .i64 ((n : Nat) : Int) := e2
            replace e3 : vs 3 = .bool true := e3
            replace e4 : vs 4 = .bool true := e4
            replace e5 : vs 5 = .pointer (some ⟨p, 0, none⟩) := e5
            replace e6 : vs 6 = .int .i64 id := e6
            replace e7 : vs 7 = .int .i64 (ct : Int) := e7
            replace e8 : vs 8 = .int .i64 (ct : Int) := e8
            replace e9 : vs 9 = .bool true := e9
            replace e10 : vs 10 = .bool true := e10
            simp only [putAll, List.take_succ_cons, List.take_zero, List.drop_succ_cons, List.drop_zero, e0, e1, e2, e3, e4, e5, e6, e7, e8, e9, e10, Nat.reduceAdd, Nat.zero_add]
            clear e0 e1 e2 e3 e4 e5 e6 e7 e8 e9 e10
            try simp only [List.setIfInBounds_toArray, List.set_cons_succ, List.set_cons_zero]
            have hkE := HKR.out.tr hR
            have hK := hkE.get HDK.out (by simp)
            have D8E : Boxed wR (w.heap.size + 1 + 1) 4 (.bool false) := hkE.get D8.out (by simp)
            have e8 := D8E.cell
            have f8 := D8E.frozen
            have hBE : Below w.heap.size w wR := HB.out.trans (hkE.below.mono HB.out.size)
            go_wp2_with fail
            have hK' := (KeepsOthers.setCell wR ⟨w.heap.size + 1 + 1, 0, none⟩ (.bool true)).same D _ hK rfl
            refine ⟨by simp, .inl ⟨_, _, rfl, run_takeDeferred hK', ?_⟩⟩
            have hc8 := cell_kept (World.cell?_setCell_same' wR ⟨w.heap.size + 1 + 1, 0, none⟩ (.bool true) (by rw [e8]; rfl)) (grownBy_putObj' _ D (.deferred none)) (fun r e => by cases e; exact ⟨_, hK', rfl⟩)
            refine ⟨.bool true, ?_, rfl, below_kp ((hBE.setCell (p := ⟨w.heap.size + 1 + 1, 0, none⟩) (by simp <;> omega) _).trans (belowK_b (w := w) (Nat.le_refl _) _ D _ _ (by have := HDW.out; omega) hK' rfl rfl))⟩
            simp [results, Try.f32, go_sem, hc8]
    case hstop =>
      rintro D c pre W _ hsp hix _
      exact absurd hsp hix
end Go.Proofs.Ytgdiffabnalidaa
