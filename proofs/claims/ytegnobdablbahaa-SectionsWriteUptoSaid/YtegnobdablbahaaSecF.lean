/-
  Sections: the law of writing, of what is not too large.
-/
import Derived.Test.YtegnobdablbahaaSecE
import Derived.Test.YtegnobdablbahaaSecsB
namespace Go.Proofs.Ytegnobdablbahaa
open Go.RowKit
set_option linter.unusedSimpArgs false
set_option linter.unusedVariables false

theorem upto_congr {p q : Nat → Bool} : ∀ {n : Nat}, (∀ i, i < n → p i = q i) → upto n p = upto n q
  | 0, _ => rfl
  | n + 1, h => by rw [upto_step, upto_step, upto_congr (n := n) (fun i hi => h i (by omega)), h n (by omega)]
theorem key_at {l m : List Sec} (h : l.map keyS = m.map keyS) : l.length = m.length ∧ ∀ i, i < l.length → (atX l i).nm = (atX m i).nm ∧ (atX l i).bs = (atX m i).bs := by
  have hl : l.length = m.length := by have := congrArg List.length h; simpa using this
  refine ⟨hl, fun i hi => ?_⟩
  have h1 := congrArg (fun x => x[i]?) h
  simp only [List.getElem?_map, List.getElem?_eq_getElem hi, List.getElem?_eq_getElem (show i < m.length by omega), Option.map_some, Option.some.injEq] at h1
  rw [atX_eq l i hi, atX_eq m i (by omega)]
  exact ⟨congrArg Prod.fst h1, congrArg Prod.snd h1⟩
theorem fndX_key {l m : List Sec} (h : l.map keyS = m.map keyS) (s : ByteArray) : fndX l s = fndX m s := by rw [fndK_eq, fndK_eq, h]
theorem mayP_key {l m : List Sec} (h : l.map keyS = m.map keyS) : mayP l = mayP m := by
  obtain ⟨h1, h2⟩ := key_at h
  have e1 : upto l.length (badI l) = upto m.length (badI m) := by
    rw [← h1]; exact upto_congr fun i hi => by rw [badI, badI, (h2 i hi).1, (h2 i hi).2]
  have e2 : upto l.length (dupI l) = upto m.length (dupI m) := by
    rw [← h1]; exact upto_congr fun i hi => by rw [dupI, dupI, (h2 i hi).1, fndX_key h]
  rw [mayP, mayP, mayG, mayG, e1, e2, h1]
theorem wrB_key {l m : List Sec} (h : l.map keyS = m.map keyS) : wrB l = wrB m := by rw [wrB, wrB, mayP_key h, imgB_key, imgB_key, h]
theorem mayN_eq {l : List Sec} (h : ∀ x ∈ l, x.bs.length ≤ 1073741824) : mayN l = mayP l := by
  have e1 : upto l.length (badN l) = upto l.length (badI l) := upto_congr fun i hi => by
    have := h _ (List.getElem_mem hi)
    rw [badN, badI, atX_eq l i hi, decide_eq_false (by omega), Bool.or_false]
  rw [mayN, mayP, mayG, mayG, e1]
theorem szN_mem : ∀ {l : List Sec} {x : Sec}, x ∈ l → 10 + x.nm.size + x.bs.length ≤ szN l
  | y :: l, x, h => by
    simp only [szN, List.map_cons, List.sum_cons]
    rcases List.mem_cons.1 h with rfl | h
    · omega
    · have := szN_mem h; simp only [szN] at this; omega
theorem rd_wr {l m : List Sec} (h : mayP l = 0) (hk : l.map keyS = m.map keyS) : rdP (imgB l) = (0, m.map keyS) := by
  obtain ⟨i1, i2⟩ := (may_iff l).1 h
  have := rd_img (l.map keyS) (by simpa using i1) i2 []
  rw [List.append_nil, if_pos rfl, ← imgB_key] at this
  rw [this, hk]
theorem szN_len : ∀ l : List Sec, l.length ≤ szN l
  | [] => by simp
  | x :: l => by have := szN_len l; simp only [szN, List.map_cons, List.sum_cons, List.length_cons] at this ⊢; omega
def SVS.secA (base : Nat) (nm : ByteArray) (q : Nat) (bs : List Int) : SVS [] :=
  ⟨fun v u => ∃ ad cap, v = .agg #[.string nm, .slice ad q cap] ∧ Own u base 5 .u8 ad cap bs, fun _ _ _ ⟨ad, cap, h1, h2⟩ hk => ⟨ad, cap, h1, h2.keep0 hk⟩⟩
def SVS.secR (base : Nat) (nm : ByteArray) (q : Nat) (bs : List Int) : SVS [] :=
  ⟨fun v u => ∃ b ad cap, v = .slice (some ⟨b, 0, none⟩) 1 1 ∧ base ≤ b ∧ u.heap[b]? = some (.cells #[.string nm, .slice ad q cap] 50) ∧ Own u base 5 .u8 ad cap bs, fun _ _ _ ⟨b, ad, cap, h1, h2, h3, h4⟩ hk => ⟨b, ad, cap, h1, h2, hk.get h3 (by simp), h4.keep0 hk⟩⟩

set_option maxRecDepth 100000 in
set_option maxHeartbeats 3200000 in
theorem sectionsWrite_any (a0 : Option Addr) (cap0 n : Nat) (l : List Sec) (s : ByteArray) (hn : n = l.length) (w : World) (hr : RdX w a0 cap0 l) (hw : ∀ x ∈ l, Sec.wf w x) (hs : s.size ≤ maxLen) (hsz : szN l ≤ 1099511627776) :
    Calls Try.prog 7 #[.slice a0 n cap0, .string s] w fun e w' => e = .returned (.bool true) ∧ Kp [] w w' := by
  have HR := Lib.hid hr
  have HN := Lib.hid hn
  have HS := Lib.hid (secs_rd hw)
  have HX := Lib.hid (secs_ok hw)
  have hcl := hr.1
  rw [← hn] at hcl
  have hcm := hr.2.1
  have hs2 : s.size ≤ 9223372036854775807 := by unfold maxLen at hs; omega
  have hz0 : wrap64 (szN l) = szN l := by unfold wrap64; omega
  obtain ⟨z, hz⟩ : ∃ z, z = szN l := ⟨_, rfl⟩
  rw [← hz] at hsz hz0
  have HZ := Lib.hid hz
  have HZ0 := Lib.hid hz0
  clear hr hn hw hz hz0 hs
  go_enter Try.func7, Try.ntmps7
  go_wp2_with fail
  refine (r21Size_any a0 cap0 n l HN.out _ HR.out HX.out).mono ?_
  rintro e w1 ⟨rfl, kp1⟩
  rw [← HZ.out, HZ0.out]
  have HK1 := Lib.hid kp1
  clear kp1
  by_cases h0 : (40000 : Int) < (z : Int)
  · go_wp2_with fail
    refine (known21_any _).mono ?_
    rintro e w2 ⟨rfl, kp2⟩
    go_wp2_with fail
    go_ret
    exact ⟨rfl, HK1.out.tr kp2⟩
  by_cases h1 : (1000 : Int) < (s.size : Int)
  · go_wp2_with fail
    refine (known21_any _).mono ?_
    rintro e w2 ⟨rfl, kp2⟩
    go_wp2_with fail
    go_ret
    exact ⟨rfl, HK1.out.tr kp2⟩
  have hnz : n ≤ 40000 := by have h2 := szN_len l; rw [← HN.out, ← HZ.out] at h2; omega
  go_wp2_with fail
  go_loopw [5, 6, 22] (fun vb _ vi wr => ∃ (i : Nat) (ad' : Option Addr) (cap' : Nat) (m : List Sec), i ≤ n ∧ vi = .int .i64 i ∧ vb = .slice ad' i cap' ∧ Hid (i = m.length) ∧ Hid (m.map keyS = (l.map keyS).take i) ∧ Hid (OwnS scells 2 wr w.heap.size 50 ad' cap' m) ∧ Hid (∀ x ∈ m, Own wr w.heap.size 5 .u8 x.ad x.cap x.bs) ∧ Hid (XOk m) ∧ Hid (Kp [] w wr)) (fun _ _ vi _ => n - (intOf vi).toNat)
  case atStart => exact ⟨0, none, 0, [], Nat.zero_le _, rfl, rfl, Lib.hid rfl, Lib.hid rfl, Lib.hid (OwnS.nil _ _ _ _ _), Lib.hid (by simp), Lib.hid (by intro x hx; simp at hx), HK1⟩
  case round =>
    obtain ⟨i, ad', cap', m, hi, rfl, rfl, HL, HKE, HO, HOB, HXO, HK⟩ := hrel
    by_cases hlt : i < n
    · have hil : i < l.length := by rw [← HN.out]; exact hlt
      obtain ⟨b, off, rfl, c0, c1⟩ := (HR.out.keep0 HK.out).atX i hil
      obtain ⟨x, hx⟩ : ∃ x, x = atX l i := ⟨_, rfl⟩
      have hxr := HS.out (atX l i) (by rw [atX_eq l i hil]; exact List.getElem_mem _)
      obtain ⟨hb8, hnm, hbl⟩ := HX.out.at' i hil
      have hmem : atX l i ∈ l := by rw [atX_eq l i hil]; exact List.getElem_mem _
      have hsm := szN_mem hmem
      rw [← HZ.out] at hsm
      rw [← hx] at c0 c1 hxr hb8 hnm hbl hsm
      obtain ⟨q, hq⟩ : ∃ q, q = x.bs.length := ⟨_, rfl⟩
      rw [← hq] at c1 hsm
      have HQ := Lib.hid hq
      have HXX := Lib.hid hx
      have HXR := Lib.hid hxr
      have hwr := HK.out.size
      clear hx hxr hq hmem hbl
      go_wp2_with fail
      refine wp_region_GS (by kernel_rfl) [] [.val (.slice ad' i cap'), .val (.slice (some ⟨b, off, none⟩) n cap0), .val (.int .i64 (i : Int)), .val (.pointer (some ⟨b, off + i * 2, none⟩)), .val (.pointer (some ⟨b, off + i * 2, none⟩)), .val (.string x.nm), .bare, .val (.slice (some ⟨b, off, none⟩) n cap0), .val (.int .i64 (i : Int)), .val (.pointer (some ⟨b, off + i * 2, none⟩)), .val (.pointer (some ⟨b, off + i * 2 + 1, none⟩)), .val (.slice x.ad q x.cap), .own w.heap.size (by simp) 5 .u8 q x.bs, .secA w.heap.size x.nm q x.bs, .secR w.heap.size x.nm q x.bs] [[(5, none)], [(0, none)], [(6, none)], [(26, some 1), (27, some 2)], [(28, some 3)], [(29, some 4)], [], [(0, none)], [(6, none)], [(32, some 7), (33, some 8)], [(34, some 9)], [(35, some 10)], [(31, some 6), (36, some 11)], [(30, some 5), (37, some 12)], [(38, some 13)]] [] (fun _ _ => True) 15 rfl (by kernel_rfl) (by kernel_rfl) (by kernel_rfl) (by kernel_rfl) (by kernel_rfl) (by simp) (fun _ _ _ h _ => h) trivial ?_ ?_
      · refine (ObG.free rfl ?o0 (ObG.free rfl ?o1 (ObG.free rfl ?o2 (ObG.free rfl ?o3 (ObG.free rfl ?o4 (ObG.free rfl ?o5 (ObG.free rfl ?o6 (ObG.free rfl ?o7 (ObG.free rfl ?o8 (ObG.free rfl ?o9 (ObG.free rfl ?o10 (ObG.free rfl ?o11 (ObG.free rfl ?o12 (ObG.free rfl ?o13 (ObG.free rfl ?o14 trivial)))))))))))))))
        case o0 => intro aR wR mR hR hI; replace hR := hR.undrew; intro (h5 : aR.tmps[5]? = some (.slice ad' i cap')); exact exec_val (c := .slice ad' i cap') (wanted_none rfl) (by go_simp) rfl
        case o1 => intro aR wR mR hR hI; replace hR := hR.undrew; intro (h0 : aR.tmps[0]? = some (.slice (some ⟨b, off, none⟩) n cap0)); exact exec_val (c := .slice (some ⟨b, off, none⟩) n cap0) (wanted_none rfl) (by go_simp) rfl
        case o2 => intro aR wR mR hR hI; replace hR := hR.undrew; intro (h6 : aR.tmps[6]? = some (.int .i64 (i : Int))); exact exec_val (c := .int .i64 (i : Int)) (wanted_none rfl) (by go_simp) rfl
        case o3 => intro aR wR mR hR hI; replace hR := hR.undrew; intro v26 h26 e26; replace e26 : v26 = .slice (some ⟨b, off, none⟩) n cap0 := e26; subst e26; intro v27 h27 e27; replace e27 : v27 = .int .i64 (i : Int) := e27; subst e27; (skip); exact exec_val (c := .pointer (some ⟨b, off + i * 2, none⟩)) (wanted_none rfl) (by go_simp) rfl
        case o4 => intro aR wR mR hR hI; replace hR := hR.undrew; intro v28 h28 e28; replace e28 : v28 = .pointer (some ⟨b, off + i * 2, none⟩) := e28; subst e28; (skip); exact exec_val (c := .pointer (some ⟨b, off + i * 2, none⟩)) (wanted_none rfl) (by go_simp) rfl
        case o5 => intro aR wR mR hR hI; replace hR := hR.undrew; intro v29 h29 e29; replace e29 : v29 = .pointer (some ⟨b, off + i * 2, none⟩) := e29; subst e29; (have hc := hR.cell c0 (by simp)); exact exec_val (c := .string x.nm) (wanted_none rfl) (by go_simp) rfl
        case o6 => intro aR wR mR hR hI; replace hR := hR.undrew; skip; exact exec_do (c := .slice (some ⟨wR.heap.size, 0, none⟩) 0 0) (w' := wR.alloc (.cells #[] 5)) (wanted_none rfl) (by go_simp) ⟨_, rfl⟩ ((Kp.refl [] _).alloc _)
        case o7 => intro aR wR mR hR hI; replace hR := hR.undrew; intro (h0 : aR.tmps[0]? = some (.slice (some ⟨b, off, none⟩) n cap0)); exact exec_val (c := .slice (some ⟨b, off, none⟩) n cap0) (wanted_none rfl) (by go_simp) rfl
        case o8 => intro aR wR mR hR hI; replace hR := hR.undrew; intro (h6 : aR.tmps[6]? = some (.int .i64 (i : Int))); exact exec_val (c := .int .i64 (i : Int)) (wanted_none rfl) (by go_simp) rfl
        case o9 => intro aR wR mR hR hI; replace hR := hR.undrew; intro v32 h32 e32; replace e32 : v32 = .slice (some ⟨b, off, none⟩) n cap0 := e32; subst e32; intro v33 h33 e33; replace e33 : v33 = .int .i64 (i : Int) := e33; subst e33; (skip); exact exec_val (c := .pointer (some ⟨b, off + i * 2, none⟩)) (wanted_none rfl) (by go_simp) rfl
        case o10 => intro aR wR mR hR hI; replace hR := hR.undrew; intro v34 h34 e34; replace e34 : v34 = .pointer (some ⟨b, off + i * 2, none⟩) := e34; subst e34; (skip); exact exec_val (c := .pointer (some ⟨b, off + i * 2 + 1, none⟩)) (wanted_none rfl) (by go_simp) rfl
        case o11 => intro aR wR mR hR hI; replace hR := hR.undrew; intro v35 h35 e35; replace e35 : v35 = .pointer (some ⟨b, off + i * 2 + 1, none⟩) := e35; subst e35; (have hc := hR.cell c1 (by simp)); exact exec_val (c := .slice x.ad q x.cap) (wanted_none rfl) (by go_simp) rfl
        case o12 => intro aR wR mR hR hI; replace hR := hR.undrew; intro v31 h31 e31; intro v36 h36 e36; replace e36 : v36 = .slice x.ad q x.cap := e36; subst e36; obtain ⟨ad1, rfl⟩ := e31; refine exec_app (wanted_none rfl) (.tmp 31) (.tmp 36) 39 39 rfl w.heap.size 5 .u8 1 Try.underlying39 infoU8 ad1 x.bs _ q HQ.out (by go_simp) (by go_simp; rfl) (by have := src_rd ((HXR.out.keep0 HK.out).keep0 hR) (tx := 39) (e' := 5) Try.underlying39; rw [← HQ.out] at this; exact this) (by omega) (by omega) (Nat.le_trans hwr hR.size) ?_; intro ad3 cap3 w4 ho3; exact ⟨ad3, cap3, rfl, ho3⟩
        case o13 => intro aR wR mR hR hI; replace hR := hR.undrew; intro v30 h30 e30; replace e30 : v30 = .string x.nm := e30; subst e30; intro v37 h37 e37; obtain ⟨ad7, cap7, rfl, ho7⟩ := e37; exact exec_val (c := .agg #[.string x.nm, .slice ad7 q cap7]) (wanted_none rfl) (by go_simp) ⟨ad7, cap7, rfl, ho7⟩
        case o14 => intro aR wR mR hR hI; replace hR := hR.undrew; intro v38 h38 e38; obtain ⟨ad7, cap7, rfl, ho7⟩ := e38; exact exec_do (c := .slice (some ⟨wR.heap.size, 0, none⟩) 1 1) (w' := wR.alloc (.cells #[.string x.nm, .slice ad7 q cap7] 50)) (wanted_none rfl) (by go_simp) ⟨_, ad7, cap7, rfl, Nat.le_trans hwr hR.size, heap_alloc_at rfl, ho7.alloc _⟩ ((Kp.refl [] _).alloc _)
      · intro vs wR hR hI hV
        obtain ⟨e0, e1, e2, e3, e4, e5, e6, e7, e8, e9, e10, e11, e12, e13, e14, -⟩ := hV
        replace e0 : vs 0 = .slice ad' i cap' := e0
        replace e1 : vs 1 = .slice (some ⟨b, off, none⟩) n cap0 := e1
        replace e2 : vs 2 = .int .i64 (i : Int) := e2
        replace e3 : vs 3 = .pointer (some ⟨b, off + i * 2, none⟩) := e3
        replace e4 : vs 4 = .pointer (some ⟨b, off + i * 2, none⟩) := e4
        replace e5 : vs 5 = .string x.nm := e5
        replace e7 : vs 7 = .slice (some ⟨b, off, none⟩) n cap0 := e7
        replace e8 : vs 8 = .int .i64 (i : Int) := e8
        replace e9 : vs 9 = .pointer (some ⟨b, off + i * 2, none⟩) := e9
        replace e10 : vs 10 = .pointer (some ⟨b, off + i * 2 + 1, none⟩) := e10
        replace e11 : vs 11 = .slice x.ad q x.cap := e11
        simp only [putAll, List.take_succ_cons, List.take_zero, List.drop_succ_cons, List.drop_zero, e0, e1, e2, e3, e4, e5, e7, e8, e9, e10, e11, Nat.reduceAdd, Nat.zero_add]
        clear e0 e1 e2 e3 e4 e5 e7 e8 e9 e10 e11
        try simp only [List.setIfInBounds_toArray, List.set_cons_succ, List.set_cons_zero]
        simp only [Nat.reduceAdd, Nat.zero_add] at e14
        obtain ⟨g, ad7, cap7, hv, hgb, hg, ho7⟩ := e14
        rw [hv]
        have hg : wR.heap[g]? = some (.cells (scells ⟨x.nm, ad7, cap7, x.bs⟩).toArray 50) := by rw [hg, HQ.out]; rfl
        have HG := Lib.hid hg
        have HO7 := Lib.hid ho7
        have hR2 := Lib.hid hR
        have hsr := hR.size
        clear hg ho7 hv hgb
        refine wpList_appS slies rfl (.tmp 25) (.tmp 39) 47 47 rfl w.heap.size 50 (.agg #[.string ⟨#[]⟩, .slice none 0 0]) 40 Try.underlying47 infoSec rfl ad' cap' i m HL.out [⟨x.nm, ad7, cap7, x.bs⟩] _ 1 rfl rfl rfl (HO.out.keep0 hR2.out) (src_oneS slies Try.underlying47 HG.out) (by omega) (by omega) (by omega) ?_
        intro ad6 cap6 w6 ho6 kp6 hob6 _
        have HOh := Lib.hid (HO.out.keep0 hR2.out)
        have HKp := Lib.hid kp6
        have HO6 := Lib.hid ho6
        have HK6 := Lib.hid ((HK.out.tr hR2.out).trans kp6 (U := []) (by simp) (fun y hy => .inr (HO.out.ob_ge y hy).1))
        clear ho6 kp6 hob6 hR
        go_wp2_with fail
        go_roundw
        case rel =>
          refine ⟨i + 1, ad6, cap6, m ++ [⟨x.nm, ad7, cap7, x.bs⟩], hlt, by go_num, rfl, Lib.hid (by rw [List.length_append, ← HL.out]; rfl), Lib.hid ?_, HO6, Lib.hid ?_, Lib.hid ?_, HK6⟩
          · rw [List.map_append, HKE.out, List.take_succ_eq_append_getElem (by simpa using hil)]
            congr 1
            simp only [List.map_cons, List.map_nil, List.getElem_map]
            rw [show l[i] = x by rw [HXX.out, atX_eq l i hil]]; rfl
          · intro y hy
            rcases List.mem_append.1 hy with hy | hy
            · exact ((HOB.out y hy).keep0 hR2.out).keepH HOh.out HKp.out
            · simp at hy; subst hy
              exact HO7.out.keepH HOh.out HKp.out
          · intro y hy
            rcases List.mem_append.1 hy with hy | hy
            · exact HXO.out y hy
            · simp at hy; subst hy
              exact ⟨hb8, hnm, by show x.bs.length ≤ _; rw [← HQ.out]; omega⟩
        case measure => simp [intOf]; omega
    · obtain rfl : i = n := by omega
      have hke : m.map keyS = l.map keyS := by rw [HKE.out, List.take_of_length_le (by simp; rw [HN.out]; exact Nat.le_refl _)]
      have HE := Lib.hid hke
      have hmn : mayN l = mayP l := mayN_eq fun x hx => by
        have h2 := szN_mem hx
        rw [← HZ.out] at h2
        omega
      have hmp := mayP_key hke
      have hwb := wrB_key hke
      have HMN := Lib.hid hmn
      have HMP := Lib.hid hmp
      have HWB := Lib.hid hwb
      have HSM : Hid (sameX m l = true) := Lib.hid (decide_eq_true hke)
      obtain ⟨v, hv⟩ : ∃ v, v = mayP l := ⟨_, rfl⟩
      have HV := Lib.hid hv
      obtain ⟨f, hf⟩ : ∃ f, f = fndX l s := ⟨_, rfl⟩
      have HF := Lib.hid hf
      have HFM : Hid (fndX m s = f) := Lib.hid (by rw [fndX_key hke, hf])
      clear hke hmn hmp hwb hv hf
      go_wp2_with fail
      refine (xWrite_any ad' cap' i m HL.out _ (HO.out.rd slies) (fun x hx => (HOB.out x hx).rd) HXO.out).mono ?_
      rintro e w2 ⟨ad2, cap2, rfl, ho2, kp2⟩
      rw [HMP.out, HWB.out, ← HV.out]
      rw [HWB.out] at ho2
      have HO2 := Lib.hid ho2
      have HK2 := Lib.hid kp2
      clear ho2 kp2
      go_wp2_with fail
      refine (r21May_any a0 cap0 i l HN.out _ (HR.out.keep0 (HK.out.tr HK2.out)) HX.out).mono ?_
      rintro e w3 ⟨rfl, rfl⟩
      rw [HMN.out, ← HV.out]
      go_wp2_with fail
      refine (r21Same_any ad' cap' i m HL.out a0 cap0 i l HN.out _ ((HO.out.keep0 HK2.out).rd slies) (fun x hx => ((HOB.out x hx).keep0 HK2.out).rd) HXO.out (HR.out.keep0 (HK.out.tr HK2.out)) (HS.out.keep0 (HK.out.tr HK2.out)) HX.out).mono ?_
      rintro e w4 ⟨rfl, kp4⟩
      rw [HSM.out]
      have HK4 := Lib.hid (HK2.out.tr kp4)
      have HO4 := Lib.hid (HO2.out.keep0 kp4)
      clear kp4
      go_wp2_with fail
      refine (xFind_any ad' cap' i m s HL.out _ ((HO.out.keep0 HK4.out).rd slies)).mono ?_
      rintro e w5 ⟨rfl, kp5⟩
      rw [HFM.out]
      have HK5 := Lib.hid (HK4.out.tr kp5)
      have HO5 := Lib.hid (HO4.out.keep0 kp5)
      clear kp5
      go_wp2_with fail
      refine (r21Find_any a0 cap0 i l s HN.out _ (HR.out.keep0 (HK.out.tr HK5.out))).mono ?_
      rintro e w6 ⟨rfl, rfl⟩
      rw [← HF.out]
      have HKW := Lib.hid (HK.out.tr HK5.out)
      by_cases hv0 : v = 0
      · subst hv0
        have hm0 : mayP l = 0 := HV.out.symm
        have e1 : wrB l = imgB l := by rw [wrB, if_pos hm0]
        obtain ⟨s1, s2⟩ := may_size hm0
        obtain ⟨M, hM⟩ : ∃ M, M = (imgB l).length := ⟨_, rfl⟩
        have ho5 := HO5.out
        rw [e1] at ho5 ⊢
        rw [← hM] at s2 ⊢
        have HM := Lib.hid hM
        have HO := Lib.hid ho5
        have HMAY := Lib.hid (mayP_ok hm0)
        have HRB := Lib.hid (rd_wr hm0 rfl)
        have hml : M ≤ 40006 := by rw [← HZ.out] at s2; omega
        have HIB := Lib.hid (imgB_b8 HX.out (mayP_ok hm0))
        clear hm0 e1 s1 s2 hM ho5
        go_wp2_with fail
        refine wp_region_K (by kernel_rfl) [.val (.slice ad2 M cap2), .val (.string (strOfNums (imgB l))), .val (.slice a0 i cap0), .own w6.heap.size 5 .u8 M (imgB l), .val (.string (strOfNums (imgB l))), .val (.bool false)] [[(7, none)], [(74, some 0)], [(0, none)], [(76, some 2)], [(77, some 3)], [(75, some 1), (78, some 4)]] rfl (by kernel_rfl) ?_ ?_
        · refine ⟨?o0, ?o1, ?o2, ?o3, ?o4, ?o5, trivial⟩
          case o0 => intro aR wR hR; replace hR := hR.undrew; intro (h7 : aR.tmps[7]? = some (.slice ad2 M cap2)); exact exec_val (c := .slice ad2 M cap2) (wanted_none rfl) (by go_simp) rfl
          case o1 => intro aR wR hR; replace hR := hR.undrew; intro v74 h74 e74; replace e74 : v74 = .slice ad2 M cap2 := e74; subst e74; (have hcv := cvs wR ad2 cap2 M (imgB l) ((HO.out.keep0 hR).rd) HM.out); exact exec_val (c := .string (strOfNums (imgB l))) (wanted_none rfl) (by go_simp) rfl
          case o2 => intro aR wR hR; replace hR := hR.undrew; intro (h0 : aR.tmps[0]? = some (.slice a0 i cap0)); exact exec_val (c := .slice a0 i cap0) (wanted_none rfl) (by go_simp) rfl
          case o3 => intro aR wR hR; replace hR := hR.undrew; intro v76 h76 e76; replace e76 : v76 = .slice a0 i cap0 := e76; subst e76; refine exec_call (wanted_none rfl) (by go_simp; exact ⟨rfl, rfl⟩) ?_; refine (r21Image_any a0 cap0 i l HN.out _ ((HR.out.keep0 HKW.out).keep0 hR) ((HS.out.keep0 HKW.out).keep0 hR) HX.out HMAY.out).mono ?_; rintro e w8 ⟨ad8, cap8, rfl, ho8, kp8⟩; exact ⟨_, rfl, ⟨ad8, cap8, by rw [HM.out], ho8.mono hR.size⟩, kp8⟩
          case o4 => intro aR wR hR; replace hR := hR.undrew; intro v77 h77 e77; (obtain ⟨ad, cap, rfl, ho⟩ := e77; have hcv := cvs wR ad cap M (imgB l) ho.rd HM.out); exact exec_val (c := .string (strOfNums (imgB l))) (wanted_none rfl) (by go_simp) rfl
          case o5 => intro aR wR hR; replace hR := hR.undrew; intro v75 h75 e75; replace e75 : v75 = .string (strOfNums (imgB l)) := e75; subst e75; intro v78 h78 e78; replace e78 : v78 = .string (strOfNums (imgB l)) := e78; subst e78; exact exec_val (c := .bool false) (wanted_none rfl) (by go_simp) rfl
        · intro vs wR hR hV
          obtain ⟨e0, e1, e2, e3, e4, e5, -⟩ := hV
          replace e0 : vs 0 = .slice ad2 M cap2 := e0
          replace e1 : vs 1 = .string (strOfNums (imgB l)) := e1
          replace e2 : vs 2 = .slice a0 i cap0 := e2
          replace e4 : vs 4 = .string (strOfNums (imgB l)) := e4
          replace e5 : vs 5 = .bool false := e5
          simp only [putAll, e0, e1, e2, e4, e5, Nat.reduceAdd, Nat.zero_add]
          clear e0 e1 e2 e4 e5
          try simp only [List.setIfInBounds_toArray, List.set_cons_succ, List.set_cons_zero]
          have HK8 := Lib.hid (HKW.out.tr hR)
          have HO8 := Lib.hid (HO.out.keep0 hR)
          clear hR
          go_wp2_with fail
          refine (xRead_any ad2 cap2 M (imgB l) HM.out _ HO8.out.rd HIB.out (by omega)).mono ?_
          rintro e w9 ⟨l9, ad9, cap9, rfl, hk9, ho9, hob9, hx9, kp9⟩
          rw [HRB.out] at hk9 ⊢
          have HK9 := Lib.hid (HK8.out.tr kp9)
          have HO9 := Lib.hid ho9
          have HOB9 := Lib.hid hob9
          have HX9 := Lib.hid hx9
          have HS9 : Hid (sameX l9 l = true) := Lib.hid (decide_eq_true hk9)
          clear hk9 ho9 hob9 hx9 kp9
          go_wp2_with fail
          refine (r21Same_any ad9 cap9 l9.length l9 rfl a0 cap0 i l HN.out _ (HO9.out.rd slies) (fun x hx => (HOB9.out x hx).rd) HX9.out (HR.out.keep0 HK9.out) (HS.out.keep0 HK9.out) HX.out).mono ?_
          rintro e w10 ⟨rfl, kp10⟩
          rw [HS9.out]
          have HK10 := Lib.hid (HK9.out.tr kp10)
          clear kp10
          go_wp2_with fail
          refine (known21_any _).mono ?_
          rintro e w11 ⟨rfl, kp11⟩
          go_wp2_with fail
          go_ret
          exact ⟨rfl, HK10.out.tr kp11⟩
      · have hvq : (v != 0) = true := by simpa using hv0
        have e1 : wrB l = [] := by rw [wrB, if_neg (by rw [← HV.out]; exact hv0)]
        rw [e1]
        clear hv0 e1
        go_wp2_with fail
        refine (known21_any _).mono ?_
        rintro e w7 ⟨rfl, kp7⟩
        go_wp2_with fail
        go_ret
        exact ⟨rfl, HKW.out.tr kp7⟩
end Go.Proofs.Ytegnobdablbahaa
