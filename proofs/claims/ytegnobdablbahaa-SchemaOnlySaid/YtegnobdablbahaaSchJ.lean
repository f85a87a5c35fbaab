/-
  Schema: a configuration that is read.
-/
import Derived.Test.YtegnobdablbahaaSchI
import Derived.Test.YtegnobdablbahaaRegionS
import Derived.Test.YtegnobdablbahaaRegionD
import Derived.Deep.DeepCutAuto
namespace Go.Proofs.Ytegnobdablbahaa
open Go.RowKit
set_option linter.unusedSimpArgs false
set_option linter.unusedVariables false

/-- A configuration in memory of the call's own. -/
def OwnCfg (w : World) (base : Nat) (d : Cfg) : Prop := OwnS bcells 1 w base 4 d.ia d.ic d.inv ∧ OwnS bcells 1 w base 4 d.ra d.rc d.rng ∧ Own w base 3 .i64 d.sa d.sc d.spl
/-- What is told of a configuration. -/
def ToldG (zs : List Int) (n a0 : Nat) (b0 : Bool) (L p : Nat) (w : World) (e : Ending) (w' : World) : Prop :=
  (cfgF zs n a0 b0 = none ∧ (∃ a b, Rdr w' L p zs a b) ∧ (∃ d, e = .returned (.tuple #[cfgV d, .bool false])) ∧ Kp [p] w w') ∨
  ∃ (c d : Cfg) (a : Nat) (b : Bool), cfgF zs n a0 b0 = some (c, a, b) ∧ e = .returned (.tuple #[cfgV d, .bool true]) ∧ alike c d ∧ OwnCfg w' w.heap.size d ∧ Rdr w' L p zs a b ∧ Kp [p] w w'
theorem results_cellq {P : Program} {fn : Func} {p q : Tmp} {ty : TypeId} (h : fn.results = #[.cell p ty, .tmp q]) (tmps : Array Value) (w : World) (g : Nat) (t : TypeId) (cs : Array Value) (fr : Nat × Nat) (d : TypeDesc)
    (hp : tmps.getD p undef = .pointer (some ⟨g, 0, none⟩)) (hg : w.heap[g]? = some (.cells cs t fr))
    (hu : P.underlying ty = some d) (hd : (match d with | .struct _ | .array _ _ => true | _ => false) = true) (hi : (P.info? ty).map (·.size) = some cs.size) :
    (results fn tmps).run P w = .ok (.tuple #[.agg cs, tmps.getD q undef]) w := by
  have hp' : tmps[p]?.getD undef = .pointer (some ⟨g, 0, none⟩) := by simpa using hp
  simp [results, h, hp', asAddr, run_loadVar_row w g t ty cs fr d hg hu hd hi]
/-- The flags in a number. -/
theorem bit1 (v : Nat) (h : v ≤ 3) : bits BinOp.and IntKind.u8 (v : Int) 1 = ((v % 2 : Nat) : Int) := by
  have : v = 0 ∨ v = 1 ∨ v = 2 ∨ v = 3 := by omega
  rcases this with rfl | rfl | rfl | rfl <;> decide +kernel
theorem bit2 (v : Nat) (h : v ≤ 3) : bits BinOp.and IntKind.u8 (v : Int) 2 = ((v / 2 * 2 : Nat) : Int) := by
  have : v = 0 ∨ v = 1 ∨ v = 2 ∨ v = 3 := by omega
  rcases this with rfl | rfl | rfl | rfl <;> decide +kernel

theorem ownS_high {α : Type} {f : α → List Value} {sz : Nat} {w : World} {base base' : Nat} {e : TypeId} {g cap : Nat} {l : List α} (h : OwnS f sz w base e (some ⟨g, 0, none⟩) cap l) (hg : base' ≤ g) : OwnS f sz w base' e (some ⟨g, 0, none⟩) cap l := by
  rcases h with h | ⟨g2, cur, h1, -, h3⟩
  · exact .inl h
  · cases h1; exact .inr ⟨g, cur, rfl, hg, h3⟩
theorem ob_here {g cap : Nat} {y : Nat} (h : y ∈ ob (some ⟨g, 0, none⟩) cap) : y = g := by
  unfold ob at h
  split at h
  · simp at h
  · simpa using h
theorem own_ne {α : Type} {f : α → List Value} {sz : Nat} {w : World} {base : Nat} {e : TypeId} {ad : Option Addr} {n cap cap2 g : Nat} {l : List α} (h : OwnS f sz w base e ad cap l) (hne : l ≠ []) (hg : w.heap.size ≤ g) : Value.slice (some ⟨g, 0, none⟩) n cap2 ≠ .slice ad n cap := by
  intro hx
  rcases h with ⟨-, h⟩ | ⟨g2, cur, rfl, -, h3, -⟩
  · exact hne h
  · injection hx with h1
    injection h1 with h1
    injection h1 with h1
    subst h1
    have := lt_of_heap h3; omega
theorem fail_cfg (s : Int) (ia : Option Addr) (k ic : Nat) (ra : Option Addr) (rc : Nat) (sa : Option Addr) (j sc : Nat) (f : Int) :
    ∃ d, Value.agg #[.int .i64 s, .slice ia k ic, .slice ra k rc, .slice sa j sc, .int .i64 f] = cfgV d :=
  ⟨⟨s, ia, ic, List.replicate k false, ra, rc, List.replicate k false, sa, sc, List.replicate j 0, f⟩, by simp [cfgV]⟩

set_option maxHeartbeats 6400000 in
set_option maxRecDepth 100000 in
theorem sconfig_any (L p n a0 : Nat) (b0 : Bool) (zs : List Int) (w : World) (h : Rdr w L p zs a0 b0) (hb : Bytes8 zs) (hL : L ≤ w.heap.size) (hn : n ≤ 256) :
    Calls Try.prog 52 #[.pointer (some ⟨p, 0, none⟩), .int .i64 (n : Int)] w fun e w' => ToldG zs n a0 b0 L p w e w' := by
  have H := Lib.hid h
  have HB := Lib.hid hb
  have hpL : p < L := h.lt
  clear h hb
  go_enter Try.func52, Try.ntmps52
  go_upto_region 1 with (fail)
  generalize hw2 : w.alloc _ = w2
  have R0 : w2.heap[w.heap.size]? = some (.cells #[.int .i64 0, .slice none 0 0, .slice none 0 0, .slice none 0 0, .int .i64 0] 26) := by rw [← hw2]; exact heap_alloc_at rfl
  have HKA := Lib.hid (show Kp [] w w2 by rw [← hw2]; exact (Kp.refl [] w).alloc _)
  have hq2 : w.heap.size < w2.heap.size := lt_of_heap R0
  obtain ⟨q, hq⟩ : ∃ q, q = w.heap.size := ⟨_, rfl⟩
  rw [← hq] at R0 hq2 ⊢
  have HQ := Lib.hid hq
  have hpq : p < q := by omega
  have hLq : L ≤ q := by omega
  clear hw2 hq
  go_wp2_with fail
  refine (cu16_any p zs a0 b0 w2 (H.out.keep HKA.out) HB.out).mono ?_
  rintro e w3 ⟨rfl, hp3, kp3⟩
  have HCF : Hid (cfgF zs n a0 b0 = if (n : Int) ≤ (rdN zs a0 b0 2 : Int) - 1 then none else cfgM zs n ((rdN zs a0 b0 2 : Int) - 1) (flagsF zs n (rdA zs a0 b0 2) (rdB zs a0 b0 2) [] [])) := Lib.hid rfl
  have hvlt := rdN_lt zs a0 b0 2 HB.out
  obtain ⟨v, hv⟩ : ∃ v, v = rdN zs a0 b0 2 := ⟨_, rfl⟩
  obtain ⟨a1, ha1⟩ : ∃ v, v = rdA zs a0 b0 2 := ⟨_, rfl⟩
  obtain ⟨b1, hb1⟩ : ∃ v, v = rdB zs a0 b0 2 := ⟨_, rfl⟩
  rw [← hv, ← ha1, ← hb1] at HCF
  rw [← hv] at hvlt ⊢
  rw [← ha1, ← hb1] at hp3
  have hv2 : v < 65536 := hvlt
  have R3 := kp3.get R0 (by simp; omega)
  have HP3 := Lib.hid hp3
  have HK3 := Lib.hid (show Kp [p] w w3 from HKA.out.trans kp3 (by simp) (by intro y hy; exact .inl hy))
  have hq3 : q < w3.heap.size := by have := kp3.size; omega
  have c0 : w3.cell? ⟨q, 0, none⟩ = some (.int .i64 0) := cell_of_row w3 q 0 _ _ _ R3
  have f0 := frozen_of_row w3 q 0 _ _ R3
  have HR3 := Lib.hid R3
  clear hv ha1 hb1 hvlt hp3 kp3 R0 R3
  go_upto_region 2 with (fail)
  generalize hw4 : w3.setCell _ _ = w4
  have R4 : w4.heap[q]? = some (.cells #[.int .i64 ((v : Int) - 1), .slice none 0 0, .slice none 0 0, .slice none 0 0, .int .i64 0] 26) := by rw [← hw4, heap_setCell_same w3 q 0 _ _ _ HR3.out]; rfl
  have KX4 := (show Kp [q] w3 w4 by rw [← hw4]; exact (Kp.refl [q] w3).setCell _ _ (by simp))
  have HK4 := Lib.hid (show Kp [p] w w4 by rw [← hw4]; exact HK3.out.setCell _ _ (.inr (by have := HQ.out; show w.heap.size ≤ q; omega)))
  have HP4 := Lib.hid (HP3.out.keepS KX4 (by intro y hy; simp at hy; omega))
  have c4 : w4.cell? ⟨q, 0, none⟩ = some (.int .i64 ((v : Int) - 1)) := cell_of_row w4 q 0 _ _ _ R4
  have hq4 : q < w4.heap.size := lt_of_heap R4
  have HR4 := Lib.hid R4
  clear hw4 KX4 R4 c0 f0
  by_cases hsn : (n : Int) ≤ (v : Int) - 1
  · go_wp2_with first
      | (refine wpList_load_row rfl 26 _ rfl q rfl 26 #[.int .i64 ((v : Int) - 1), .slice none 0 0, .slice none 0 0, .slice none 0 0, .int .i64 0] (0, 0) _ HR4.out Try.underlying26 rfl (by kernel_rfl) ?_)
      | (refine wpList_store_row rfl 26 _ _ rfl q #[.int .i64 ((v : Int) - 1), .slice none 0 0, .slice none 0 0, .slice none 0 0, .int .i64 0] rfl rfl 26 _ HR4.out (by kernel_rfl) rfl (by simp [Value.oneCell']) ?_)
    refine bodyPost_ret (v := .tuple #[.agg #[.int .i64 ((v : Int) - 1), .slice none 0 0, .slice none 0 0, .slice none 0 0, .int .i64 0], .bool false]) (results_cellq Try.results52 _ _ q 26 #[.int .i64 ((v : Int) - 1), .slice none 0 0, .slice none 0 0, .slice none 0 0, .int .i64 0] (0, 0) _ rfl (setRow_heap _ q _ _ _ _ HR4.out) Try.underlying26 rfl (by kernel_rfl)) rfl (.inl ⟨by rw [HCF.out, if_pos hsn], ⟨_, _, HP4.out.keepS ((Kp.refl [q] _).setRow2 _ _ (.inl (by simp))) (by intro y hy; simp at hy; omega)⟩, ?_, HK4.out.setRow2 _ _ (.inr (by have := HQ.out; omega))⟩)
    obtain ⟨d, hd⟩ := fail_cfg ((v : Int) - 1) none 0 0 none 0 none 0 0 0
    exact ⟨d, by rw [← hd]⟩
  · have HCF2 : Hid (cfgF zs n a0 b0 = cfgM zs n ((v : Int) - 1) (flagsF zs n a1 b1 [] [])) := Lib.hid (by rw [HCF.out, if_neg hsn])
    obtain ⟨srt, hsrt⟩ : ∃ s, s = (v : Int) - 1 := ⟨_, rfl⟩
    have HR5 : Hid (w4.heap[q]? = some (.cells #[.int .i64 srt, .slice none 0 0, .slice none 0 0, .slice none 0 0, .int .i64 0] 26)) := Lib.hid (by rw [hsrt]; exact HR4.out)
    have HCF3 : Hid (cfgF zs n a0 b0 = cfgM zs n srt (flagsF zs n a1 b1 [] [])) := Lib.hid (by rw [hsrt]; exact HCF2.out)
    clear HCF HCF2 HR4
    go_wp2_with fail
    clear c4 hsrt
    go_loopw [6, 20] (fun _ vi wr => ∃ (k a : Nat) (b : Bool) (A B : List Bool) (ia : Option Addr) (ic : Nat) (ra : Option Addr) (rc : Nat), k ≤ n ∧ vi = .int .i64 k ∧ Hid (k = A.length) ∧ Hid (k = B.length) ∧ Hid (wr.heap[q]? = some (.cells #[.int .i64 srt, .slice ia k ic, .slice ra k rc, .slice none 0 0, .int .i64 0] 26)) ∧ Hid (OwnS bcells 1 wr (q + 1) 4 ia ic A) ∧ Hid (OwnS bcells 1 wr (q + 1) 4 ra rc B) ∧ Hid (∀ y ∈ ob ia ic, y ∉ ob ra rc) ∧ Hid (Rdr wr L p zs a b) ∧ Hid (flagsF zs n a1 b1 [] [] = flagsF zs (n - k) a b A B) ∧ Hid (Kp [p] w wr)) (fun _ vi _ => n - (intOf vi).toNat)
    case atStart => exact ⟨0, a1, b1, [], [], none, 0, none, 0, Nat.zero_le _, rfl, Lib.hid rfl, Lib.hid rfl, HR5, Lib.hid (OwnS.nil _ _ _ _ _), Lib.hid (OwnS.nil _ _ _ _ _), Lib.hid (by simp [ob]), HP4, Lib.hid rfl, HK4⟩
    case round =>
      obtain ⟨k, a, b, A, B, ia, ic, ra, rc, hk, rfl, HA, HBL, HR, HOA, HOB, HDJ, HRD, HX, HK⟩ := hrel
      obtain ⟨w5, rfl⟩ : ∃ w5, w5 = wr := ⟨_, rfl⟩
      by_cases hlt : k < n
      · have hst := HX.out
        rw [show n - k = (n - (k + 1)) + 1 by omega, flagsF] at hst
        have v1lt := rdN_lt zs a b 1 HB.out
        go_wp2_with fail
        refine (cu8_any p zs a b w5 HRD.out HB.out).mono ?_
        rintro e w6 ⟨rfl, hp6, kp6⟩
        obtain ⟨v1, hv1⟩ : ∃ v, v = rdN zs a b 1 := ⟨_, rfl⟩
        obtain ⟨a2, ha2⟩ : ∃ v, v = rdA zs a b 1 := ⟨_, rfl⟩
        obtain ⟨b2, hb2⟩ : ∃ v, v = rdB zs a b 1 := ⟨_, rfl⟩
        rw [← hv1, ← ha2, ← hb2] at hst
        rw [← hv1] at v1lt ⊢
        rw [← ha2, ← hb2] at hp6
        have v1l : v1 < 256 := v1lt
        have HST := Lib.hid hst
        have HP6 := Lib.hid hp6
        have HK6 := Lib.hid (kp_same HK.out kp6)
        have HOA6 := Lib.hid (HOA.out.keep kp6 (fun y hy hx => by have := (HOA.out.ob_ge y hy).1; simp at hx; omega))
        have HOB6 := Lib.hid (HOB.out.keep kp6 (fun y hy hx => by have := (HOB.out.ob_ge y hy).1; simp at hx; omega))
        have HR6 := Lib.hid (kp6.get HR.out (by simp; omega))
        have hq6 : q < w6.heap.size := lt_of_heap HR6.out
        clear hv1 ha2 hb2 hst hp6 kp6 v1lt
        by_cases h3 : (3 : Int) < (v1 : Int)
        · go_wp2_with first
            | (refine wpList_load_row rfl 26 _ rfl q rfl 26 #[.int .i64 srt, .slice ia k ic, .slice ra k rc, .slice none 0 0, .int .i64 0] (0, 0) _ HR6.out Try.underlying26 rfl (by kernel_rfl) ?_)
            | (refine wpList_store_row rfl 26 _ _ rfl q #[.int .i64 srt, .slice ia k ic, .slice ra k rc, .slice none 0 0, .int .i64 0] rfl rfl 26 _ HR6.out (by kernel_rfl) rfl (by simp [Value.oneCell']) ?_)
          refine bodyPost_ret (v := .tuple #[.agg #[.int .i64 srt, .slice ia k ic, .slice ra k rc, .slice none 0 0, .int .i64 0], .bool false]) (results_cellq Try.results52 _ _ q 26 #[.int .i64 srt, .slice ia k ic, .slice ra k rc, .slice none 0 0, .int .i64 0] (0, 0) _ rfl (setRow_heap _ q _ _ _ _ HR6.out) Try.underlying26 rfl (by kernel_rfl)) rfl (.inl ⟨by rw [HCF3.out, HST.out, if_pos (by omega)]; rfl, ⟨_, _, HP6.out.keepS ((Kp.refl [q] _).setRow2 _ _ (.inl (by simp))) (by intro y hy; simp at hy; omega)⟩, ?_, HK6.out.setRow2 _ _ (.inr (by have := HQ.out; omega))⟩)
          obtain ⟨d, hd⟩ := fail_cfg srt ia k ic ra rc none 0 0 0
          exact ⟨d, by rw [← hd]⟩
        · have hv3 : v1 ≤ 3 := by omega
          have HST2 := Lib.hid (HST.out.trans (if_neg (by omega)))
          have hx1 := bit1 v1 hv3
          have hx2 := bit2 v1 hv3
          obtain ⟨m1, hm1⟩ : ∃ m : Nat, m = v1 % 2 := ⟨_, rfl⟩
          obtain ⟨m2, hm2⟩ : ∃ m : Nat, m = v1 / 2 * 2 := ⟨_, rfl⟩
          rw [← hm1] at hx1
          rw [← hm2] at hx2
          obtain ⟨f1, hf1⟩ : ∃ f : Bool, f = decide (v1 % 2 = 1) := ⟨_, rfl⟩
          obtain ⟨f2, hf2⟩ : ∃ f : Bool, f = decide (2 ≤ v1) := ⟨_, rfl⟩
          have hg1 : ((m1 : Int) != 0) = f1 := by
            rw [hf1, hm1]
            have : v1 % 2 = 0 ∨ v1 % 2 = 1 := by omega
            rcases this with h | h <;> rw [h] <;> rfl
          have hg2 : ((m2 : Int) != 0) = f2 := by
            rw [hf2, hm2]
            have : v1 = 0 ∨ v1 = 1 ∨ v1 = 2 ∨ v1 = 3 := by omega
            rcases this with rfl | rfl | rfl | rfl <;> rfl
          have HST3 : Hid (flagsF zs n a1 b1 [] [] = flagsF zs (n - (k + 1)) a2 b2 (A ++ [f1]) (B ++ [f2])) := Lib.hid (by rw [HST2.out, ← hf1, ← hf2])
          have HX1 := Lib.hid hx1
          have HX2 := Lib.hid hx2
          have HG1 := Lib.hid hg1
          have HG2 := Lib.hid hg2
          have HC1 : Hid (w6.cell? ⟨q, 1, none⟩ = some (.slice ia k ic)) := Lib.hid (cell_of_row w6 q 1 _ _ _ HR6.out)
          have HC2 : Hid (w6.cell? ⟨q, 2, none⟩ = some (.slice ra k rc)) := Lib.hid (cell_of_row w6 q 2 _ _ _ HR6.out)
          have hsA : ∀ y ∈ ob ia ic, q < y ∧ y < w6.heap.size := fun y hy => ⟨by have := (HOA6.out.ob_ge y hy).1; omega, (HOA6.out.ob_ge y hy).2⟩
          have hsB : ∀ y ∈ ob ra rc, q < y ∧ y < w6.heap.size := fun y hy => ⟨by have := (HOB6.out.ob_ge y hy).1; omega, (HOB6.out.ob_ge y hy).2⟩
          have HSA := Lib.hid hsA
          have HSB := Lib.hid hsB
          clear hx1 hx2 hg1 hg2 hm1 hm2 hf1 hf2 hsA hsB HST HST2
          go_upto_region 9 with (fail)
          by_cases hr1 : k + 1 ≤ ic
          · by_cases hr2 : k + 1 ≤ rc
            · have hSx : ∀ y ∈ ((ob ia ic ++ ob ra rc) : List Nat), y < w6.heap.size := fun y hy => by rcases List.mem_append.1 hy with h | h; exact (HSA.out y h).2; exact (HSB.out y h).2
              refine wp_region_GS (by kernel_rfl) (ob ia ic ++ ob ra rc) [.val (.pointer (some ⟨q, 1, none⟩)), .val (.slice ia k ic), .val (.int .u8 (v1 : Int)), .val (.int .u8 (m1 : Int)), .val (.bool f1), .oneS bcells w6.heap.size hSx 4 f1, .val (.slice ia (k + 1) ic), .val (.pointer (some ⟨q, 2, none⟩)), .val (.slice ra k rc), .val (.int .u8 (v1 : Int)), .val (.int .u8 (m2 : Int)), .val (.bool f2), .oneS bcells w6.heap.size hSx 4 f2, .val (.slice ra (k + 1) rc), .val (.pointer (some ⟨q, 1, none⟩))] [[(4, none)], [(27, some 0)], [(6, none)], [(29, some 2)], [(30, some 3)], [(31, some 4)], [(28, some 1), (32, some 5)], [(4, none)], [(34, some 7)], [(6, none)], [(36, some 9)], [(37, some 10)], [(38, some 11)], [(35, some 8), (39, some 12)], [(4, none)]] [6, 13] (fun j wx => OwnS bcells 1 wx (q + 1) 4 ia ic (A ++ [f1].take j) ∧ OwnS bcells 1 wx (q + 1) 4 ra rc (B ++ [f2].take (j - 1))) 15 rfl (by kernel_rfl) (by kernel_rfl) (by kernel_rfl) (by kernel_rfl) (by kernel_rfl) (by simp) (fun _ _ _ h k => ⟨h.1.keep0 k, h.2.keep0 k⟩) ⟨by simpa using HOA6.out, by simpa using HOB6.out⟩ ?_ ?_
              · refine (ObG.free rfl ?o0 (ObG.free rfl ?o1 (ObG.free rfl ?o2 (ObG.free rfl ?o3 (ObG.free rfl ?o4 (ObG.free rfl ?o5 (ObG.chain 0 rfl ?o6 (ObG.free rfl ?o7 (ObG.free rfl ?o8 (ObG.free rfl ?o9 (ObG.free rfl ?o10 (ObG.free rfl ?o11 (ObG.free rfl ?o12 (ObG.chain 1 rfl ?o13 (ObG.free rfl ?o14 trivial)))))))))))))))
                case o0 => intro aR wR mR hR hI; replace hR := hR.undrew; intro (h4 : aR.tmps[4]? = some (.pointer (some ⟨q, 0, none⟩))); exact exec_val (c := .pointer (some ⟨q, 1, none⟩)) (wanted_none rfl) (by go_simp) rfl
                case o1 => intro aR wR mR hR hI; replace hR := hR.undrew; intro v27 h27 e27; replace e27 : v27 = .pointer (some ⟨q, 1, none⟩) := e27; subst e27; (have hc := hR.cell HC1.out (by intro hx; rcases List.mem_append.1 hx with h | h; exact absurd (HSA.out q h).1 (by omega); exact absurd (HSB.out q h).1 (by omega))); exact exec_val (c := .slice ia k ic) (wanted_none rfl) (by go_simp) rfl
                case o2 => intro aR wR mR hR hI; replace hR := hR.undrew; intro (h6 : aR.tmps[6]? = some (.int .u8 (v1 : Int))); exact exec_val (c := .int .u8 (v1 : Int)) (wanted_none rfl) (by go_simp) rfl
                case o3 => intro aR wR mR hR hI; replace hR := hR.undrew; intro v29 h29 e29; replace e29 : v29 = .int .u8 (v1 : Int) := e29; subst e29; (have hx := HX1.out); exact exec_val (c := .int .u8 (m1 : Int)) (wanted_none rfl) (by go_simp) rfl
                case o4 => intro aR wR mR hR hI; replace hR := hR.undrew; intro v30 h30 e30; replace e30 : v30 = .int .u8 (m1 : Int) := e30; subst e30; (have hx := HG1.out); exact exec_val (c := .bool f1) (wanted_none rfl) (by go_simp) rfl
                case o5 => intro aR wR mR hR hI; replace hR := hR.undrew; intro v31 h31 e31; replace e31 : v31 = .bool f1 := e31; subst e31; exact exec_do (c := .slice (some ⟨wR.heap.size, 0, none⟩) 1 1) (w' := wR.alloc (.cells #[.bool f1] 4)) (wanted_none rfl) (by go_simp) ⟨_, rfl, hR.size, heap_alloc_at rfl⟩ ((Kp.refl [] _).alloc _)
                case o6 => intro aR wR hR hI; replace hR := hR.undrew; intro v28 h28 e28; replace e28 : v28 = .slice ia k ic := e28; subst e28; intro v32 h32 e32; obtain ⟨b9, rfl, -, h9⟩ := e32; exact execS_room blies (wanted_none rfl) (.tmp 28) (.tmp 32) 23 23 rfl (q + 1) 4 (.bool false) 1 Try.underlying23 infoBool rfl ia ic k A HA.out [f1] _ 1 rfl (by go_simp) (by go_simp) (show OwnS bcells 1 wR (q + 1) 4 ia ic A by simpa using hI.1) (src_oneS blies (x := f1) Try.underlying23 h9) hr1 (fun w' g1 g2 => ⟨rfl, g2.wide (fun y hy => List.mem_append_left _ hy), ⟨by simpa using g1, hI.2.keep g2 (fun y hy hx => HDJ.out y hx hy)⟩⟩)
                case o7 => intro aR wR mR hR hI; replace hR := hR.undrew; intro (h4 : aR.tmps[4]? = some (.pointer (some ⟨q, 0, none⟩))); exact exec_val (c := .pointer (some ⟨q, 2, none⟩)) (wanted_none rfl) (by go_simp) rfl
                case o8 => intro aR wR mR hR hI; replace hR := hR.undrew; intro v34 h34 e34; replace e34 : v34 = .pointer (some ⟨q, 2, none⟩) := e34; subst e34; (have hc := hR.cell HC2.out (by intro hx; rcases List.mem_append.1 hx with h | h; exact absurd (HSA.out q h).1 (by omega); exact absurd (HSB.out q h).1 (by omega))); exact exec_val (c := .slice ra k rc) (wanted_none rfl) (by go_simp) rfl
                case o9 => intro aR wR mR hR hI; replace hR := hR.undrew; intro (h6 : aR.tmps[6]? = some (.int .u8 (v1 : Int))); exact exec_val (c := .int .u8 (v1 : Int)) (wanted_none rfl) (by go_simp) rfl
                case o10 => intro aR wR mR hR hI; replace hR := hR.undrew; intro v36 h36 e36; replace e36 : v36 = .int .u8 (v1 : Int) := e36; subst e36; (have hx := HX2.out); exact exec_val (c := .int .u8 (m2 : Int)) (wanted_none rfl) (by go_simp) rfl
                case o11 => intro aR wR mR hR hI; replace hR := hR.undrew; intro v37 h37 e37; replace e37 : v37 = .int .u8 (m2 : Int) := e37; subst e37; (have hx := HG2.out); exact exec_val (c := .bool f2) (wanted_none rfl) (by go_simp) rfl
                case o12 => intro aR wR mR hR hI; replace hR := hR.undrew; intro v38 h38 e38; replace e38 : v38 = .bool f2 := e38; subst e38; exact exec_do (c := .slice (some ⟨wR.heap.size, 0, none⟩) 1 1) (w' := wR.alloc (.cells #[.bool f2] 4)) (wanted_none rfl) (by go_simp) ⟨_, rfl, hR.size, heap_alloc_at rfl⟩ ((Kp.refl [] _).alloc _)
                case o13 => intro aR wR hR hI; replace hR := hR.undrew; intro v35 h35 e35; replace e35 : v35 = .slice ra k rc := e35; subst e35; intro v39 h39 e39; obtain ⟨b9, rfl, -, h9⟩ := e39; exact execS_room blies (wanted_none rfl) (.tmp 35) (.tmp 39) 23 23 rfl (q + 1) 4 (.bool false) 1 Try.underlying23 infoBool rfl ra rc k B HBL.out [f2] _ 1 rfl (by go_simp) (by go_simp) (show OwnS bcells 1 wR (q + 1) 4 ra rc B by simpa using hI.2) (src_oneS blies (x := f2) Try.underlying23 h9) hr2 (fun w' g1 g2 => ⟨rfl, g2.wide (fun y hy => List.mem_append_right _ hy), ⟨hI.1.keep g2 (fun y hy hx => HDJ.out y hy hx), by simpa using g1⟩⟩)
                case o14 => intro aR wR mR hR hI; replace hR := hR.undrew; intro (h4 : aR.tmps[4]? = some (.pointer (some ⟨q, 0, none⟩))); exact exec_val (c := .pointer (some ⟨q, 1, none⟩)) (wanted_none rfl) (by go_simp) rfl
              · intro vs wR hR hI hV
                obtain ⟨e0, e1, e2, e3, e4, e5, e6, e7, e8, e9, e10, e11, e12, e13, e14, -⟩ := hV
                replace e0 : vs 0 = .pointer (some ⟨q, 1, none⟩) := e0
                replace e1 : vs 1 = .slice ia k ic := e1
                replace e2 : vs 2 = .int .u8 (v1 : Int) := e2
                replace e3 : vs 3 = .int .u8 (m1 : Int) := e3
                replace e4 : vs 4 = .bool f1 := e4
                replace e6 : vs 6 = .slice ia (k + 1) ic := e6
                replace e7 : vs 7 = .pointer (some ⟨q, 2, none⟩) := e7
                replace e8 : vs 8 = .slice ra k rc := e8
                replace e9 : vs 9 = .int .u8 (v1 : Int) := e9
                replace e10 : vs 10 = .int .u8 (m2 : Int) := e10
                replace e11 : vs 11 = .bool f2 := e11
                replace e13 : vs 13 = .slice ra (k + 1) rc := e13
                replace e14 : vs 14 = .pointer (some ⟨q, 1, none⟩) := e14
                simp only [putAll, List.take_succ_cons, List.take_zero, List.drop_succ_cons, List.drop_zero, e0, e1, e2, e3, e4, e6, e7, e8, e9, e10, e11, e13, e14, Nat.reduceAdd, Nat.zero_add]
                clear e0 e1 e2 e3 e4 e6 e7 e8 e9 e10 e11 e13 e14
                try simp only [List.setIfInBounds_toArray, List.set_cons_succ, List.set_cons_zero]
                have hA7 : OwnS bcells 1 wR (q + 1) 4 ia ic (A ++ [f1]) := by simpa using hI.1
                have hB7 : OwnS bcells 1 wR (q + 1) 4 ra rc (B ++ [f2]) := by simpa using hI.2
                have hdis := HDJ.out
                have hgt : ∀ y ∈ (ob ia ic ++ ob ra rc), q < y := (fun y hy => by rcases List.mem_append.1 hy with h | h; exact (HSA.out y h).1; exact (HSB.out y h).1)
                have HKR := Lib.hid (HK6.out.trans hR (U := [p]) (by simp) (fun y hy => .inr (by have := hgt y hy; have := HQ.out; omega)))
                have HPR := Lib.hid (HP6.out.keepS hR (fun y hy => by have := hgt y hy; omega))
                have hRR := hR.get HR6.out (by intro hx; rcases List.mem_append.1 hx with h | h; exact absurd (HSA.out q h).1 (by omega); exact absurd (HSB.out q h).1 (by omega))
                have HRR := Lib.hid hRR
                have t1 : wR.cell? ⟨q, 1, none⟩ = some (.slice ia k ic) := cell_of_row wR q 1 _ _ _ hRR
                have t2 : wR.cell? ⟨q, 2, none⟩ = some (.slice ra k rc) := cell_of_row wR q 2 _ _ _ hRR
                have u1 := frozen_of_row wR q 1 _ _ hRR
                have u2 := frozen_of_row wR q 2 _ _ hRR
                have HA7 := Lib.hid hA7
                have HB7 := Lib.hid hB7
                have HDI := Lib.hid hdis
                clear hA7 hB7 hdis hRR hgt hR hI
                go_wp2_with fail
                generalize hw9 : (wR.setCell _ _).setCell _ _ = w9
                have R9 : w9.heap[q]? = some (.cells #[.int .i64 srt, .slice ia (k + 1) ic, .slice ra (k + 1) rc, .slice none 0 0, .int .i64 0] 26) := by
                  rw [← hw9, heap_setCell_same _ q 2 _ _ _ (heap_setCell_same wR q 1 _ _ _ HRR.out)]; rfl
                have KX9 : Kp [q] wR w9 := by rw [← hw9]; exact ((Kp.refl [q] wR).setCell _ _ (by simp)).setCell _ _ (by simp)
                have HK9 := Lib.hid (show Kp [p] w w9 from HKR.out.trans KX9 (by simp) (fun y hy => .inr (by simp at hy; have := HQ.out; omega)))
                have HP9 := Lib.hid (HPR.out.keepS KX9 (by intro y hy; simp at hy; omega))
                have HA9 := Lib.hid (HA7.out.keep KX9 (fun y hy hx => by have := (HA7.out.ob_ge y hy).1; simp at hx; omega))
                have HB9 := Lib.hid (HB7.out.keep KX9 (fun y hy hx => by have := (HB7.out.ob_ge y hy).1; simp at hx; omega))
                have HR9 := Lib.hid R9
                clear hw9 KX9 R9 t1 t2 u1 u2
                go_roundw
                case rel => exact ⟨k + 1, a2, b2, A ++ [f1], B ++ [f2], ia, ic, ra, rc, hlt, by go_num, Lib.hid (by rw [List.length_append, ← HA.out]; rfl), Lib.hid (by rw [List.length_append, ← HBL.out]; rfl), HR9, HA9, HB9, HDI, HP9, HST3, HK9⟩
                case measure => simp [intOf]; omega
            · have hSx : ∀ y ∈ ((ob ia ic) : List Nat), y < w6.heap.size := fun y hy => (HSA.out y hy).2
              refine wp_region_GS (by kernel_rfl) (ob ia ic) [.val (.pointer (some ⟨q, 1, none⟩)), .val (.slice ia k ic), .val (.int .u8 (v1 : Int)), .val (.int .u8 (m1 : Int)), .val (.bool f1), .oneS bcells w6.heap.size hSx 4 f1, .val (.slice ia (k + 1) ic), .val (.pointer (some ⟨q, 2, none⟩)), .val (.slice ra k rc), .val (.int .u8 (v1 : Int)), .val (.int .u8 (m2 : Int)), .val (.bool f2), .oneS bcells w6.heap.size hSx 4 f2, .ownS bcells 1 w6.heap.size hSx 4 (k + 1) (B ++ [f2]), .val (.pointer (some ⟨q, 1, none⟩))] [[(4, none)], [(27, some 0)], [(6, none)], [(29, some 2)], [(30, some 3)], [(31, some 4)], [(28, some 1), (32, some 5)], [(4, none)], [(34, some 7)], [(6, none)], [(36, some 9)], [(37, some 10)], [(38, some 11)], [(35, some 8), (39, some 12)], [(4, none)]] [6] (fun j wx => OwnS bcells 1 wx (q + 1) 4 ia ic (A ++ [f1].take j) ∧ OwnS bcells 1 wx (q + 1) 4 ra rc B) 15 rfl (by kernel_rfl) (by kernel_rfl) (by kernel_rfl) (by kernel_rfl) (by kernel_rfl) (by simp) (fun _ _ _ h k => ⟨h.1.keep0 k, h.2.keep0 k⟩) ⟨by simpa using HOA6.out, HOB6.out⟩ ?_ ?_
              · refine (ObG.free rfl ?o0 (ObG.free rfl ?o1 (ObG.free rfl ?o2 (ObG.free rfl ?o3 (ObG.free rfl ?o4 (ObG.free rfl ?o5 (ObG.chain 0 rfl ?o6 (ObG.free rfl ?o7 (ObG.free rfl ?o8 (ObG.free rfl ?o9 (ObG.free rfl ?o10 (ObG.free rfl ?o11 (ObG.free rfl ?o12 (ObG.free rfl ?o13 (ObG.free rfl ?o14 trivial)))))))))))))))
                case o0 => intro aR wR mR hR hI; replace hR := hR.undrew; intro (h4 : aR.tmps[4]? = some (.pointer (some ⟨q, 0, none⟩))); exact exec_val (c := .pointer (some ⟨q, 1, none⟩)) (wanted_none rfl) (by go_simp) rfl
                case o1 => intro aR wR mR hR hI; replace hR := hR.undrew; intro v27 h27 e27; replace e27 : v27 = .pointer (some ⟨q, 1, none⟩) := e27; subst e27; (have hc := hR.cell HC1.out (by intro hx; exact absurd (HSA.out q hx).1 (by omega))); exact exec_val (c := .slice ia k ic) (wanted_none rfl) (by go_simp) rfl
                case o2 => intro aR wR mR hR hI; replace hR := hR.undrew; intro (h6 : aR.tmps[6]? = some (.int .u8 (v1 : Int))); exact exec_val (c := .int .u8 (v1 : Int)) (wanted_none rfl) (by go_simp) rfl
                case o3 => intro aR wR mR hR hI; replace hR := hR.undrew; intro v29 h29 e29; replace e29 : v29 = .int .u8 (v1 : Int) := e29; subst e29; (have hx := HX1.out); exact exec_val (c := .int .u8 (m1 : Int)) (wanted_none rfl) (by go_simp) rfl
                case o4 => intro aR wR mR hR hI; replace hR := hR.undrew; intro v30 h30 e30; replace e30 : v30 = .int .u8 (m1 : Int) := e30; subst e30; (have hx := HG1.out); exact exec_val (c := .bool f1) (wanted_none rfl) (by go_simp) rfl
                case o5 => intro aR wR mR hR hI; replace hR := hR.undrew; intro v31 h31 e31; replace e31 : v31 = .bool f1 := e31; subst e31; exact exec_do (c := .slice (some ⟨wR.heap.size, 0, none⟩) 1 1) (w' := wR.alloc (.cells #[.bool f1] 4)) (wanted_none rfl) (by go_simp) ⟨_, rfl, hR.size, heap_alloc_at rfl⟩ ((Kp.refl [] _).alloc _)
                case o6 => intro aR wR hR hI; replace hR := hR.undrew; intro v28 h28 e28; replace e28 : v28 = .slice ia k ic := e28; subst e28; intro v32 h32 e32; obtain ⟨b9, rfl, -, h9⟩ := e32; exact execS_room blies (wanted_none rfl) (.tmp 28) (.tmp 32) 23 23 rfl (q + 1) 4 (.bool false) 1 Try.underlying23 infoBool rfl ia ic k A HA.out [f1] _ 1 rfl (by go_simp) (by go_simp) (show OwnS bcells 1 wR (q + 1) 4 ia ic A by simpa using hI.1) (src_oneS blies (x := f1) Try.underlying23 h9) hr1 (fun w' g1 g2 => ⟨rfl, g2.wide (fun y hy => hy), ⟨by simpa using g1, hI.2.keep g2 (fun y hy hx => HDJ.out y hx hy)⟩⟩)
                case o7 => intro aR wR mR hR hI; replace hR := hR.undrew; intro (h4 : aR.tmps[4]? = some (.pointer (some ⟨q, 0, none⟩))); exact exec_val (c := .pointer (some ⟨q, 2, none⟩)) (wanted_none rfl) (by go_simp) rfl
                case o8 => intro aR wR mR hR hI; replace hR := hR.undrew; intro v34 h34 e34; replace e34 : v34 = .pointer (some ⟨q, 2, none⟩) := e34; subst e34; (have hc := hR.cell HC2.out (by intro hx; exact absurd (HSA.out q hx).1 (by omega))); exact exec_val (c := .slice ra k rc) (wanted_none rfl) (by go_simp) rfl
                case o9 => intro aR wR mR hR hI; replace hR := hR.undrew; intro (h6 : aR.tmps[6]? = some (.int .u8 (v1 : Int))); exact exec_val (c := .int .u8 (v1 : Int)) (wanted_none rfl) (by go_simp) rfl
                case o10 => intro aR wR mR hR hI; replace hR := hR.undrew; intro v36 h36 e36; replace e36 : v36 = .int .u8 (v1 : Int) := e36; subst e36; (have hx := HX2.out); exact exec_val (c := .int .u8 (m2 : Int)) (wanted_none rfl) (by go_simp) rfl
                case o11 => intro aR wR mR hR hI; replace hR := hR.undrew; intro v37 h37 e37; replace e37 : v37 = .int .u8 (m2 : Int) := e37; subst e37; (have hx := HG2.out); exact exec_val (c := .bool f2) (wanted_none rfl) (by go_simp) rfl
                case o12 => intro aR wR mR hR hI; replace hR := hR.undrew; intro v38 h38 e38; replace e38 : v38 = .bool f2 := e38; subst e38; exact exec_do (c := .slice (some ⟨wR.heap.size, 0, none⟩) 1 1) (w' := wR.alloc (.cells #[.bool f2] 4)) (wanted_none rfl) (by go_simp) ⟨_, rfl, hR.size, heap_alloc_at rfl⟩ ((Kp.refl [] _).alloc _)
                case o13 => intro aR wR mR hR hI; replace hR := hR.undrew; intro v35 h35 e35; replace e35 : v35 = .slice ra k rc := e35; subst e35; intro v39 h39 e39; obtain ⟨b9, rfl, -, h9⟩ := e39; have hIx := (show OwnS bcells 1 wR (q + 1) 4 ra rc B by first | exact hI.2 | simpa using hI.2); exact execS_grow blies (wanted_none rfl) (.tmp 35) (.tmp 39) 23 23 rfl (q + 1) 4 (.bool false) 1 Try.underlying23 infoBool rfl ra rc k B HBL.out [f2] _ 1 rfl (by go_simp) (by go_simp) hIx (src_oneS blies (x := f2) Try.underlying23 h9) hr2 (by omega) (by omega) (Nat.le_trans (Nat.succ_le_of_lt hq6) hR.size) (fun cap' w' g1 g2 => ⟨_, cap', rfl, ownS_high g1 hR.size⟩)
                case o14 => intro aR wR mR hR hI; replace hR := hR.undrew; intro (h4 : aR.tmps[4]? = some (.pointer (some ⟨q, 0, none⟩))); exact exec_val (c := .pointer (some ⟨q, 1, none⟩)) (wanted_none rfl) (by go_simp) rfl
              · intro vs wR hR hI hV
                obtain ⟨e0, e1, e2, e3, e4, e5, e6, e7, e8, e9, e10, e11, e12, e13, e14, -⟩ := hV
                replace e0 : vs 0 = .pointer (some ⟨q, 1, none⟩) := e0
                replace e1 : vs 1 = .slice ia k ic := e1
                replace e2 : vs 2 = .int .u8 (v1 : Int) := e2
                replace e3 : vs 3 = .int .u8 (m1 : Int) := e3
                replace e4 : vs 4 = .bool f1 := e4
                replace e6 : vs 6 = .slice ia (k + 1) ic := e6
                replace e7 : vs 7 = .pointer (some ⟨q, 2, none⟩) := e7
                replace e8 : vs 8 = .slice ra k rc := e8
                replace e9 : vs 9 = .int .u8 (v1 : Int) := e9
                replace e10 : vs 10 = .int .u8 (m2 : Int) := e10
                replace e11 : vs 11 = .bool f2 := e11
                replace e14 : vs 14 = .pointer (some ⟨q, 1, none⟩) := e14
                simp only [putAll, List.take_succ_cons, List.take_zero, List.drop_succ_cons, List.drop_zero, e0, e1, e2, e3, e4, e6, e7, e8, e9, e10, e11, e14, Nat.reduceAdd, Nat.zero_add]
                clear e0 e1 e2 e3 e4 e6 e7 e8 e9 e10 e11 e14
                try simp only [List.setIfInBounds_toArray, List.set_cons_succ, List.set_cons_zero]
                simp only [Nat.reduceAdd, Nat.zero_add] at e13
                obtain ⟨ad8, cap8, hv8, hB6⟩ := e13
                rw [hv8]
                have hA7 : OwnS bcells 1 wR (q + 1) 4 ia ic (A ++ [f1]) := by simpa using hI.1
                have hB7 : OwnS bcells 1 wR (q + 1) 4 ad8 cap8 (B ++ [f2]) := hB6.mono (by omega)
                have hdis : ∀ y ∈ ob ia ic, y ∉ ob ad8 cap8 := fun y hy hx => by have h1 := (HSA.out y hy).2; have h2 := (hB6.ob_ge y hx).1; omega
                have hgt : ∀ y ∈ (ob ia ic), q < y := (fun y hy => (HSA.out y hy).1)
                have HKR := Lib.hid (HK6.out.trans hR (U := [p]) (by simp) (fun y hy => .inr (by have := hgt y hy; have := HQ.out; omega)))
                have HPR := Lib.hid (HP6.out.keepS hR (fun y hy => by have := hgt y hy; omega))
                have hRR := hR.get HR6.out (by intro hx; exact absurd (HSA.out q hx).1 (by omega))
                have HRR := Lib.hid hRR
                have t1 : wR.cell? ⟨q, 1, none⟩ = some (.slice ia k ic) := cell_of_row wR q 1 _ _ _ hRR
                have t2 : wR.cell? ⟨q, 2, none⟩ = some (.slice ra k rc) := cell_of_row wR q 2 _ _ _ hRR
                have u1 := frozen_of_row wR q 1 _ _ hRR
                have u2 := frozen_of_row wR q 2 _ _ hRR
                have HA7 := Lib.hid hA7
                have HB7 := Lib.hid hB7
                have HDI := Lib.hid hdis
                clear hA7 hB7 hdis hRR hgt hR hI
                go_wp2_with fail
                generalize hw9 : (wR.setCell _ _).setCell _ _ = w9
                have R9 : w9.heap[q]? = some (.cells #[.int .i64 srt, .slice ia (k + 1) ic, .slice ad8 (k + 1) cap8, .slice none 0 0, .int .i64 0] 26) := by
                  rw [← hw9, heap_setCell_same _ q 2 _ _ _ (heap_setCell_same wR q 1 _ _ _ HRR.out)]; rfl
                have KX9 : Kp [q] wR w9 := by rw [← hw9]; exact ((Kp.refl [q] wR).setCell _ _ (by simp)).setCell _ _ (by simp)
                have HK9 := Lib.hid (show Kp [p] w w9 from HKR.out.trans KX9 (by simp) (fun y hy => .inr (by simp at hy; have := HQ.out; omega)))
                have HP9 := Lib.hid (HPR.out.keepS KX9 (by intro y hy; simp at hy; omega))
                have HA9 := Lib.hid (HA7.out.keep KX9 (fun y hy hx => by have := (HA7.out.ob_ge y hy).1; simp at hx; omega))
                have HB9 := Lib.hid (HB7.out.keep KX9 (fun y hy hx => by have := (HB7.out.ob_ge y hy).1; simp at hx; omega))
                have HR9 := Lib.hid R9
                clear hw9 KX9 R9 t1 t2 u1 u2
                go_roundw
                case rel => exact ⟨k + 1, a2, b2, A ++ [f1], B ++ [f2], ia, ic, ad8, cap8, hlt, by go_num, Lib.hid (by rw [List.length_append, ← HA.out]; rfl), Lib.hid (by rw [List.length_append, ← HBL.out]; rfl), HR9, HA9, HB9, HDI, HP9, HST3, HK9⟩
                case measure => simp [intOf]; omega
          · by_cases hr2 : k + 1 ≤ rc
            · have hSx : ∀ y ∈ ((ob ra rc) : List Nat), y < w6.heap.size := fun y hy => (HSB.out y hy).2
              refine wp_region_GS (by kernel_rfl) (ob ra rc) [.val (.pointer (some ⟨q, 1, none⟩)), .val (.slice ia k ic), .val (.int .u8 (v1 : Int)), .val (.int .u8 (m1 : Int)), .val (.bool f1), .oneS bcells w6.heap.size hSx 4 f1, .ownS bcells 1 w6.heap.size hSx 4 (k + 1) (A ++ [f1]), .val (.pointer (some ⟨q, 2, none⟩)), .val (.slice ra k rc), .val (.int .u8 (v1 : Int)), .val (.int .u8 (m2 : Int)), .val (.bool f2), .oneS bcells w6.heap.size hSx 4 f2, .val (.slice ra (k + 1) rc), .val (.pointer (some ⟨q, 1, none⟩))] [[(4, none)], [(27, some 0)], [(6, none)], [(29, some 2)], [(30, some 3)], [(31, some 4)], [(28, some 1), (32, some 5)], [(4, none)], [(34, some 7)], [(6, none)], [(36, some 9)], [(37, some 10)], [(38, some 11)], [(35, some 8), (39, some 12)], [(4, none)]] [13] (fun j wx => OwnS bcells 1 wx (q + 1) 4 ia ic A ∧ OwnS bcells 1 wx (q + 1) 4 ra rc (B ++ [f2].take j)) 15 rfl (by kernel_rfl) (by kernel_rfl) (by kernel_rfl) (by kernel_rfl) (by kernel_rfl) (by simp) (fun _ _ _ h k => ⟨h.1.keep0 k, h.2.keep0 k⟩) ⟨HOA6.out, by simpa using HOB6.out⟩ ?_ ?_
              · refine (ObG.free rfl ?o0 (ObG.free rfl ?o1 (ObG.free rfl ?o2 (ObG.free rfl ?o3 (ObG.free rfl ?o4 (ObG.free rfl ?o5 (ObG.free rfl ?o6 (ObG.free rfl ?o7 (ObG.free rfl ?o8 (ObG.free rfl ?o9 (ObG.free rfl ?o10 (ObG.free rfl ?o11 (ObG.free rfl ?o12 (ObG.chain 0 rfl ?o13 (ObG.free rfl ?o14 trivial)))))))))))))))
                case o0 => intro aR wR mR hR hI; replace hR := hR.undrew; intro (h4 : aR.tmps[4]? = some (.pointer (some ⟨q, 0, none⟩))); exact exec_val (c := .pointer (some ⟨q, 1, none⟩)) (wanted_none rfl) (by go_simp) rfl
                case o1 => intro aR wR mR hR hI; replace hR := hR.undrew; intro v27 h27 e27; replace e27 : v27 = .pointer (some ⟨q, 1, none⟩) := e27; subst e27; (have hc := hR.cell HC1.out (by intro hx; exact absurd (HSB.out q hx).1 (by omega))); exact exec_val (c := .slice ia k ic) (wanted_none rfl) (by go_simp) rfl
                case o2 => intro aR wR mR hR hI; replace hR := hR.undrew; intro (h6 : aR.tmps[6]? = some (.int .u8 (v1 : Int))); exact exec_val (c := .int .u8 (v1 : Int)) (wanted_none rfl) (by go_simp) rfl
                case o3 => intro aR wR mR hR hI; replace hR := hR.undrew; intro v29 h29 e29; replace e29 : v29 = .int .u8 (v1 : Int) := e29; subst e29; (have hx := HX1.out); exact exec_val (c := .int .u8 (m1 : Int)) (wanted_none rfl) (by go_simp) rfl
                case o4 => intro aR wR mR hR hI; replace hR := hR.undrew; intro v30 h30 e30; replace e30 : v30 = .int .u8 (m1 : Int) := e30; subst e30; (have hx := HG1.out); exact exec_val (c := .bool f1) (wanted_none rfl) (by go_simp) rfl
                case o5 => intro aR wR mR hR hI; replace hR := hR.undrew; intro v31 h31 e31; replace e31 : v31 = .bool f1 := e31; subst e31; exact exec_do (c := .slice (some ⟨wR.heap.size, 0, none⟩) 1 1) (w' := wR.alloc (.cells #[.bool f1] 4)) (wanted_none rfl) (by go_simp) ⟨_, rfl, hR.size, heap_alloc_at rfl⟩ ((Kp.refl [] _).alloc _)
                case o6 => intro aR wR mR hR hI; replace hR := hR.undrew; intro v28 h28 e28; replace e28 : v28 = .slice ia k ic := e28; subst e28; intro v32 h32 e32; obtain ⟨b9, rfl, -, h9⟩ := e32; have hIx := (show OwnS bcells 1 wR (q + 1) 4 ia ic A by first | exact hI.1 | simpa using hI.1); exact execS_grow blies (wanted_none rfl) (.tmp 28) (.tmp 32) 23 23 rfl (q + 1) 4 (.bool false) 1 Try.underlying23 infoBool rfl ia ic k A HA.out [f1] _ 1 rfl (by go_simp) (by go_simp) hIx (src_oneS blies (x := f1) Try.underlying23 h9) hr1 (by omega) (by omega) (Nat.le_trans (Nat.succ_le_of_lt hq6) hR.size) (fun cap' w' g1 g2 => ⟨_, cap', rfl, ownS_high g1 hR.size⟩)
                case o7 => intro aR wR mR hR hI; replace hR := hR.undrew; intro (h4 : aR.tmps[4]? = some (.pointer (some ⟨q, 0, none⟩))); exact exec_val (c := .pointer (some ⟨q, 2, none⟩)) (wanted_none rfl) (by go_simp) rfl
                case o8 => intro aR wR mR hR hI; replace hR := hR.undrew; intro v34 h34 e34; replace e34 : v34 = .pointer (some ⟨q, 2, none⟩) := e34; subst e34; (have hc := hR.cell HC2.out (by intro hx; exact absurd (HSB.out q hx).1 (by omega))); exact exec_val (c := .slice ra k rc) (wanted_none rfl) (by go_simp) rfl
                case o9 => intro aR wR mR hR hI; replace hR := hR.undrew; intro (h6 : aR.tmps[6]? = some (.int .u8 (v1 : Int))); exact exec_val (c := .int .u8 (v1 : Int)) (wanted_none rfl) (by go_simp) rfl
                case o10 => intro aR wR mR hR hI; replace hR := hR.undrew; intro v36 h36 e36; replace e36 : v36 = .int .u8 (v1 : Int) := e36; subst e36; (have hx := HX2.out); exact exec_val (c := .int .u8 (m2 : Int)) (wanted_none rfl) (by go_simp) rfl
                case o11 => intro aR wR mR hR hI; replace hR := hR.undrew; intro v37 h37 e37; replace e37 : v37 = .int .u8 (m2 : Int) := e37; subst e37; (have hx := HG2.out); exact exec_val (c := .bool f2) (wanted_none rfl) (by go_simp) rfl
                case o12 => intro aR wR mR hR hI; replace hR := hR.undrew; intro v38 h38 e38; replace e38 : v38 = .bool f2 := e38; subst e38; exact exec_do (c := .slice (some ⟨wR.heap.size, 0, none⟩) 1 1) (w' := wR.alloc (.cells #[.bool f2] 4)) (wanted_none rfl) (by go_simp) ⟨_, rfl, hR.size, heap_alloc_at rfl⟩ ((Kp.refl [] _).alloc _)
                case o13 => intro aR wR hR hI; replace hR := hR.undrew; intro v35 h35 e35; replace e35 : v35 = .slice ra k rc := e35; subst e35; intro v39 h39 e39; obtain ⟨b9, rfl, -, h9⟩ := e39; exact execS_room blies (wanted_none rfl) (.tmp 35) (.tmp 39) 23 23 rfl (q + 1) 4 (.bool false) 1 Try.underlying23 infoBool rfl ra rc k B HBL.out [f2] _ 1 rfl (by go_simp) (by go_simp) (show OwnS bcells 1 wR (q + 1) 4 ra rc B by simpa using hI.2) (src_oneS blies (x := f2) Try.underlying23 h9) hr2 (fun w' g1 g2 => ⟨rfl, g2.wide (fun y hy => hy), ⟨hI.1.keep g2 (fun y hy hx => HDJ.out y hy hx), by simpa using g1⟩⟩)
                case o14 => intro aR wR mR hR hI; replace hR := hR.undrew; intro (h4 : aR.tmps[4]? = some (.pointer (some ⟨q, 0, none⟩))); exact exec_val (c := .pointer (some ⟨q, 1, none⟩)) (wanted_none rfl) (by go_simp) rfl
              · intro vs wR hR hI hV
                obtain ⟨e0, e1, e2, e3, e4, e5, e6, e7, e8, e9, e10, e11, e12, e13, e14, -⟩ := hV
                replace e0 : vs 0 = .pointer (some ⟨q, 1, none⟩) := e0
                replace e1 : vs 1 = .slice ia k ic := e1
                replace e2 : vs 2 = .int .u8 (v1 : Int) := e2
                replace e3 : vs 3 = .int .u8 (m1 : Int) := e3
                replace e4 : vs 4 = .bool f1 := e4
                replace e7 : vs 7 = .pointer (some ⟨q, 2, none⟩) := e7
                replace e8 : vs 8 = .slice ra k rc := e8
                replace e9 : vs 9 = .int .u8 (v1 : Int) := e9
                replace e10 : vs 10 = .int .u8 (m2 : Int) := e10
                replace e11 : vs 11 = .bool f2 := e11
                replace e13 : vs 13 = .slice ra (k + 1) rc := e13
                replace e14 : vs 14 = .pointer (some ⟨q, 1, none⟩) := e14
                simp only [putAll, List.take_succ_cons, List.take_zero, List.drop_succ_cons, List.drop_zero, e0, e1, e2, e3, e4, e7, e8, e9, e10, e11, e13, e14, Nat.reduceAdd, Nat.zero_add]
                clear e0 e1 e2 e3 e4 e7 e8 e9 e10 e11 e13 e14
                try simp only [List.setIfInBounds_toArray, List.set_cons_succ, List.set_cons_zero]
                simp only [Nat.reduceAdd, Nat.zero_add] at e6
                obtain ⟨ad7, cap7, hv7, hA6⟩ := e6
                rw [hv7]
                have hA7 : OwnS bcells 1 wR (q + 1) 4 ad7 cap7 (A ++ [f1]) := hA6.mono (by omega)
                have hB7 : OwnS bcells 1 wR (q + 1) 4 ra rc (B ++ [f2]) := by simpa using hI.2
                have hdis : ∀ y ∈ ob ad7 cap7, y ∉ ob ra rc := fun y hy hx => by have h1 := (HSB.out y hx).2; have h2 := (hA6.ob_ge y hy).1; omega
                have hgt : ∀ y ∈ (ob ra rc), q < y := (fun y hy => (HSB.out y hy).1)
                have HKR := Lib.hid (HK6.out.trans hR (U := [p]) (by simp) (fun y hy => .inr (by have := hgt y hy; have := HQ.out; omega)))
                have HPR := Lib.hid (HP6.out.keepS hR (fun y hy => by have := hgt y hy; omega))
                have hRR := hR.get HR6.out (by intro hx; exact absurd (HSB.out q hx).1 (by omega))
                have HRR := Lib.hid hRR
                have t1 : wR.cell? ⟨q, 1, none⟩ = some (.slice ia k ic) := cell_of_row wR q 1 _ _ _ hRR
                have t2 : wR.cell? ⟨q, 2, none⟩ = some (.slice ra k rc) := cell_of_row wR q 2 _ _ _ hRR
                have u1 := frozen_of_row wR q 1 _ _ hRR
                have u2 := frozen_of_row wR q 2 _ _ hRR
                have HA7 := Lib.hid hA7
                have HB7 := Lib.hid hB7
                have HDI := Lib.hid hdis
                clear hA7 hB7 hdis hRR hgt hR hI
                go_wp2_with fail
                generalize hw9 : (wR.setCell _ _).setCell _ _ = w9
                have R9 : w9.heap[q]? = some (.cells #[.int .i64 srt, .slice ad7 (k + 1) cap7, .slice ra (k + 1) rc, .slice none 0 0, .int .i64 0] 26) := by
                  rw [← hw9, heap_setCell_same _ q 2 _ _ _ (heap_setCell_same wR q 1 _ _ _ HRR.out)]; rfl
                have KX9 : Kp [q] wR w9 := by rw [← hw9]; exact ((Kp.refl [q] wR).setCell _ _ (by simp)).setCell _ _ (by simp)
                have HK9 := Lib.hid (show Kp [p] w w9 from HKR.out.trans KX9 (by simp) (fun y hy => .inr (by simp at hy; have := HQ.out; omega)))
                have HP9 := Lib.hid (HPR.out.keepS KX9 (by intro y hy; simp at hy; omega))
                have HA9 := Lib.hid (HA7.out.keep KX9 (fun y hy hx => by have := (HA7.out.ob_ge y hy).1; simp at hx; omega))
                have HB9 := Lib.hid (HB7.out.keep KX9 (fun y hy hx => by have := (HB7.out.ob_ge y hy).1; simp at hx; omega))
                have HR9 := Lib.hid R9
                clear hw9 KX9 R9 t1 t2 u1 u2
                go_roundw
                case rel => exact ⟨k + 1, a2, b2, A ++ [f1], B ++ [f2], ad7, cap7, ra, rc, hlt, by go_num, Lib.hid (by rw [List.length_append, ← HA.out]; rfl), Lib.hid (by rw [List.length_append, ← HBL.out]; rfl), HR9, HA9, HB9, HDI, HP9, HST3, HK9⟩
                case measure => simp [intOf]; omega
            · have hSx : ∀ y ∈ ([] : List Nat), y < w6.heap.size := fun y hy => by simp at hy
              refine wp_region_DS (by kernel_rfl) [] [.val (.pointer (some ⟨q, 1, none⟩)), .val (.slice ia k ic), .val (.int .u8 (v1 : Int)), .val (.int .u8 (m1 : Int)), .val (.bool f1), .oneS bcells w6.heap.size hSx 4 f1, .ownS bcells 1 w6.heap.size hSx 4 (k + 1) (A ++ [f1]), .val (.pointer (some ⟨q, 2, none⟩)), .val (.slice ra k rc), .val (.int .u8 (v1 : Int)), .val (.int .u8 (m2 : Int)), .val (.bool f2), .oneS bcells w6.heap.size hSx 4 f2, .ownS bcells 1 w6.heap.size hSx 4 (k + 1) (B ++ [f2]), .val (.pointer (some ⟨q, 1, none⟩))] [[(4, none)], [(27, some 0)], [(6, none)], [(29, some 2)], [(30, some 3)], [(31, some 4)], [(28, some 1), (32, some 5)], [(4, none)], [(34, some 7)], [(6, none)], [(36, some 9)], [(37, some 10)], [(38, some 11)], [(35, some 8), (39, some 12)], [(4, none)]] [] (fun _ wx => OwnS bcells 1 wx (q + 1) 4 ia ic A ∧ OwnS bcells 1 wx (q + 1) 4 ra rc B) 15 rfl (by kernel_rfl) (by kernel_rfl) (by kernel_rfl) (by kernel_rfl) (by kernel_rfl) (by simp) (fun _ _ _ h k => ⟨h.1.keep0 k, h.2.keep0 k⟩) ⟨HOA6.out, HOB6.out⟩ [(6, 13), (13, 6)] (by intro i j h; simp at h ⊢; omega) ?_ ?_
              · refine (ObD.free rfl ?o0 (ObD.free rfl ?o1 (ObD.free rfl ?o2 (ObD.free rfl ?o3 (ObD.free rfl ?o4 (ObD.free rfl ?o5 (ObD.free rfl ?o6 (ObD.free rfl ?o7 (ObD.free rfl ?o8 (ObD.free rfl ?o9 (ObD.free rfl ?o10 (ObD.free rfl ?o11 (ObD.free rfl ?o12 (ObD.free rfl ?o13 (ObD.free rfl ?o14 trivial)))))))))))))))
                case o0 => intro aR wR mR hR hI; replace hR := hR.undrew; intro (h4 : aR.tmps[4]? = some (.pointer (some ⟨q, 0, none⟩))); exact exec_val (c := .pointer (some ⟨q, 1, none⟩)) (wanted_none rfl) (by go_simp) ⟨rfl, notD rfl⟩
                case o1 => intro aR wR mR hR hI; replace hR := hR.undrew; intro v27 h27 e27; replace e27 : v27 = .pointer (some ⟨q, 1, none⟩) := e27; subst e27; (have hc := hR.cell HC1.out (by simp)); exact exec_val (c := .slice ia k ic) (wanted_none rfl) (by go_simp) ⟨rfl, notD rfl⟩
                case o2 => intro aR wR mR hR hI; replace hR := hR.undrew; intro (h6 : aR.tmps[6]? = some (.int .u8 (v1 : Int))); exact exec_val (c := .int .u8 (v1 : Int)) (wanted_none rfl) (by go_simp) ⟨rfl, notD rfl⟩
                case o3 => intro aR wR mR hR hI; replace hR := hR.undrew; intro v29 h29 e29; replace e29 : v29 = .int .u8 (v1 : Int) := e29; subst e29; (have hx := HX1.out); exact exec_val (c := .int .u8 (m1 : Int)) (wanted_none rfl) (by go_simp) ⟨rfl, notD rfl⟩
                case o4 => intro aR wR mR hR hI; replace hR := hR.undrew; intro v30 h30 e30; replace e30 : v30 = .int .u8 (m1 : Int) := e30; subst e30; (have hx := HG1.out); exact exec_val (c := .bool f1) (wanted_none rfl) (by go_simp) ⟨rfl, notD rfl⟩
                case o5 => intro aR wR mR hR hI; replace hR := hR.undrew; intro v31 h31 e31; replace e31 : v31 = .bool f1 := e31; subst e31; exact exec_do (c := .slice (some ⟨wR.heap.size, 0, none⟩) 1 1) (w' := wR.alloc (.cells #[.bool f1] 4)) (wanted_none rfl) (by go_simp) ⟨⟨_, rfl, hR.size, heap_alloc_at rfl⟩, notD rfl⟩ ((Kp.refl [] _).alloc _)
                case o6 => intro aR wR mR hR hI; replace hR := hR.undrew; intro v28 h28 e28; replace e28 : v28 = .slice ia k ic := e28; subst e28; intro v32 h32 e32; obtain ⟨b9, rfl, -, h9⟩ := e32; have hIx := (show OwnS bcells 1 wR (q + 1) 4 ia ic A by first | exact hI.1 | simpa using hI.1); exact execS_grow blies (wanted_none rfl) (.tmp 28) (.tmp 32) 23 23 rfl (q + 1) 4 (.bool false) 1 Try.underlying23 infoBool rfl ia ic k A HA.out [f1] _ 1 rfl (by go_simp) (by go_simp) hIx (src_oneS blies (x := f1) Try.underlying23 h9) hr1 (by omega) (by omega) (Nat.le_trans (Nat.succ_le_of_lt hq6) hR.size) (fun cap' w' g1 g2 => ⟨⟨_, cap', rfl, ownS_high g1 hR.size⟩, fun j hj u hu => (by simp at hj; subst hj; obtain ⟨ad9, cap9, rfl, ho9⟩ := (show ∃ ad cap, u = .slice ad (k + 1) cap ∧ OwnS bcells 1 wR w6.heap.size 4 ad cap (B ++ [f2]) from hu); exact own_ne ho9 (by simp) (Nat.le_refl _))⟩)
                case o7 => intro aR wR mR hR hI; replace hR := hR.undrew; intro (h4 : aR.tmps[4]? = some (.pointer (some ⟨q, 0, none⟩))); exact exec_val (c := .pointer (some ⟨q, 2, none⟩)) (wanted_none rfl) (by go_simp) ⟨rfl, notD rfl⟩
                case o8 => intro aR wR mR hR hI; replace hR := hR.undrew; intro v34 h34 e34; replace e34 : v34 = .pointer (some ⟨q, 2, none⟩) := e34; subst e34; (have hc := hR.cell HC2.out (by simp)); exact exec_val (c := .slice ra k rc) (wanted_none rfl) (by go_simp) ⟨rfl, notD rfl⟩
                case o9 => intro aR wR mR hR hI; replace hR := hR.undrew; intro (h6 : aR.tmps[6]? = some (.int .u8 (v1 : Int))); exact exec_val (c := .int .u8 (v1 : Int)) (wanted_none rfl) (by go_simp) ⟨rfl, notD rfl⟩
                case o10 => intro aR wR mR hR hI; replace hR := hR.undrew; intro v36 h36 e36; replace e36 : v36 = .int .u8 (v1 : Int) := e36; subst e36; (have hx := HX2.out); exact exec_val (c := .int .u8 (m2 : Int)) (wanted_none rfl) (by go_simp) ⟨rfl, notD rfl⟩
                case o11 => intro aR wR mR hR hI; replace hR := hR.undrew; intro v37 h37 e37; replace e37 : v37 = .int .u8 (m2 : Int) := e37; subst e37; (have hx := HG2.out); exact exec_val (c := .bool f2) (wanted_none rfl) (by go_simp) ⟨rfl, notD rfl⟩
                case o12 => intro aR wR mR hR hI; replace hR := hR.undrew; intro v38 h38 e38; replace e38 : v38 = .bool f2 := e38; subst e38; exact exec_do (c := .slice (some ⟨wR.heap.size, 0, none⟩) 1 1) (w' := wR.alloc (.cells #[.bool f2] 4)) (wanted_none rfl) (by go_simp) ⟨⟨_, rfl, hR.size, heap_alloc_at rfl⟩, notD rfl⟩ ((Kp.refl [] _).alloc _)
                case o13 => intro aR wR mR hR hI; replace hR := hR.undrew; intro v35 h35 e35; replace e35 : v35 = .slice ra k rc := e35; subst e35; intro v39 h39 e39; obtain ⟨b9, rfl, -, h9⟩ := e39; have hIx := (show OwnS bcells 1 wR (q + 1) 4 ra rc B by first | exact hI.2 | simpa using hI.2); exact execS_grow blies (wanted_none rfl) (.tmp 35) (.tmp 39) 23 23 rfl (q + 1) 4 (.bool false) 1 Try.underlying23 infoBool rfl ra rc k B HBL.out [f2] _ 1 rfl (by go_simp) (by go_simp) hIx (src_oneS blies (x := f2) Try.underlying23 h9) hr2 (by omega) (by omega) (Nat.le_trans (Nat.succ_le_of_lt hq6) hR.size) (fun cap' w' g1 g2 => ⟨⟨_, cap', rfl, ownS_high g1 hR.size⟩, fun j hj u hu => (by simp at hj; subst hj; obtain ⟨ad9, cap9, rfl, ho9⟩ := (show ∃ ad cap, u = .slice ad (k + 1) cap ∧ OwnS bcells 1 wR w6.heap.size 4 ad cap (A ++ [f1]) from hu); exact own_ne ho9 (by simp) (Nat.le_refl _))⟩)
                case o14 => intro aR wR mR hR hI; replace hR := hR.undrew; intro (h4 : aR.tmps[4]? = some (.pointer (some ⟨q, 0, none⟩))); exact exec_val (c := .pointer (some ⟨q, 1, none⟩)) (wanted_none rfl) (by go_simp) ⟨rfl, notD rfl⟩
              · intro vs wR hR hI hV hDF
                have hd0 := hDF 6 13 _ _ _ _ (by simp) rfl rfl rfl rfl
                clear hDF
                obtain ⟨e0, e1, e2, e3, e4, e5, e6, e7, e8, e9, e10, e11, e12, e13, e14, -⟩ := hV
                replace e0 : vs 0 = .pointer (some ⟨q, 1, none⟩) := e0
                replace e1 : vs 1 = .slice ia k ic := e1
                replace e2 : vs 2 = .int .u8 (v1 : Int) := e2
                replace e3 : vs 3 = .int .u8 (m1 : Int) := e3
                replace e4 : vs 4 = .bool f1 := e4
                replace e7 : vs 7 = .pointer (some ⟨q, 2, none⟩) := e7
                replace e8 : vs 8 = .slice ra k rc := e8
                replace e9 : vs 9 = .int .u8 (v1 : Int) := e9
                replace e10 : vs 10 = .int .u8 (m2 : Int) := e10
                replace e11 : vs 11 = .bool f2 := e11
                replace e14 : vs 14 = .pointer (some ⟨q, 1, none⟩) := e14
                simp only [putAll, List.take_succ_cons, List.take_zero, List.drop_succ_cons, List.drop_zero, e0, e1, e2, e3, e4, e7, e8, e9, e10, e11, e14, Nat.reduceAdd, Nat.zero_add]
                clear e0 e1 e2 e3 e4 e7 e8 e9 e10 e11 e14
                try simp only [List.setIfInBounds_toArray, List.set_cons_succ, List.set_cons_zero]
                simp only [Nat.reduceAdd, Nat.zero_add] at e6 e13 hd0
                obtain ⟨ad7, cap7, hv7, hA6⟩ := e6
                obtain ⟨ad8, cap8, hv8, hB6⟩ := e13
                rw [hv7, hv8] at hd0 ⊢
                have hA7 : OwnS bcells 1 wR (q + 1) 4 ad7 cap7 (A ++ [f1]) := hA6.mono (by omega)
                have hB7 : OwnS bcells 1 wR (q + 1) 4 ad8 cap8 (B ++ [f2]) := hB6.mono (by omega)
                have hdis : ∀ y ∈ ob ad7 cap7, y ∉ ob ad8 cap8 := own_apart hA6 hB6 hd0
                have hgt : ∀ y ∈ [], q < y := (fun y hy => by simp at hy)
                have HKR := Lib.hid (HK6.out.trans hR (U := [p]) (by simp) (fun y hy => .inr (by have := hgt y hy; have := HQ.out; omega)))
                have HPR := Lib.hid (HP6.out.keepS hR (fun y hy => by have := hgt y hy; omega))
                have hRR := hR.get HR6.out (by simp)
                have HRR := Lib.hid hRR
                have t1 : wR.cell? ⟨q, 1, none⟩ = some (.slice ia k ic) := cell_of_row wR q 1 _ _ _ hRR
                have t2 : wR.cell? ⟨q, 2, none⟩ = some (.slice ra k rc) := cell_of_row wR q 2 _ _ _ hRR
                have u1 := frozen_of_row wR q 1 _ _ hRR
                have u2 := frozen_of_row wR q 2 _ _ hRR
                have HA7 := Lib.hid hA7
                have HB7 := Lib.hid hB7
                have HDI := Lib.hid hdis
                clear hA7 hB7 hdis hRR hgt hR hI
                go_wp2_with fail
                generalize hw9 : (wR.setCell _ _).setCell _ _ = w9
                have R9 : w9.heap[q]? = some (.cells #[.int .i64 srt, .slice ad7 (k + 1) cap7, .slice ad8 (k + 1) cap8, .slice none 0 0, .int .i64 0] 26) := by
                  rw [← hw9, heap_setCell_same _ q 2 _ _ _ (heap_setCell_same wR q 1 _ _ _ HRR.out)]; rfl
                have KX9 : Kp [q] wR w9 := by rw [← hw9]; exact ((Kp.refl [q] wR).setCell _ _ (by simp)).setCell _ _ (by simp)
                have HK9 := Lib.hid (show Kp [p] w w9 from HKR.out.trans KX9 (by simp) (fun y hy => .inr (by simp at hy; have := HQ.out; omega)))
                have HP9 := Lib.hid (HPR.out.keepS KX9 (by intro y hy; simp at hy; omega))
                have HA9 := Lib.hid (HA7.out.keep KX9 (fun y hy hx => by have := (HA7.out.ob_ge y hy).1; simp at hx; omega))
                have HB9 := Lib.hid (HB7.out.keep KX9 (fun y hy hx => by have := (HB7.out.ob_ge y hy).1; simp at hx; omega))
                have HR9 := Lib.hid R9
                clear hw9 KX9 R9 t1 t2 u1 u2
                go_roundw
                case rel => exact ⟨k + 1, a2, b2, A ++ [f1], B ++ [f2], ad7, cap7, ad8, cap8, hlt, by go_num, Lib.hid (by rw [List.length_append, ← HA.out]; rfl), Lib.hid (by rw [List.length_append, ← HBL.out]; rfl), HR9, HA9, HB9, HDI, HP9, HST3, HK9⟩
                case measure => simp [intOf]; omega
      · obtain rfl : k = n := by omega
        have HCF4 : Hid (cfgF zs k a0 b0 = if 8 < rdN zs a b 1 then none else cfgS zs srt A B (splF zs k (rdN zs a b 1) (rdA zs a b 1) (rdB zs a b 1) [])) := Lib.hid (by rw [HCF3.out, HX.out, Nat.sub_self, flagsF, cfgM])
        have v1lt := rdN_lt zs a b 1 HB.out
        go_wp2_with fail
        refine (cu8_any p zs a b w5 HRD.out HB.out).mono ?_
        rintro e w7 ⟨rfl, hp7, kp7⟩
        obtain ⟨M, hM⟩ : ∃ v, v = rdN zs a b 1 := ⟨_, rfl⟩
        obtain ⟨a5, ha5⟩ : ∃ v, v = rdA zs a b 1 := ⟨_, rfl⟩
        obtain ⟨b5, hb5⟩ : ∃ v, v = rdB zs a b 1 := ⟨_, rfl⟩
        have HCF5 : Hid (cfgF zs k a0 b0 = if 8 < M then none else cfgS zs srt A B (splF zs k M a5 b5 [])) := Lib.hid (by rw [HCF4.out, hM, ha5, hb5])
        rw [← hM] at v1lt ⊢
        rw [← ha5, ← hb5] at hp7
        have hMl : M < 256 := v1lt
        have HP7 := Lib.hid hp7
        have HK7 := Lib.hid (kp_same HK.out kp7)
        have HA7 := Lib.hid (HOA.out.keep kp7 (fun y hy hx => by have := (HOA.out.ob_ge y hy).1; simp at hx; omega))
        have HB7 := Lib.hid (HOB.out.keep kp7 (fun y hy hx => by have := (HOB.out.ob_ge y hy).1; simp at hx; omega))
        have HR7 := Lib.hid (kp7.get HR.out (by simp; omega))
        have hq7 : q < w7.heap.size := lt_of_heap HR7.out
        have HLA : Hid (∀ y ∈ ob ia ic, y < w7.heap.size) := Lib.hid (fun y hy => (HA7.out.ob_ge y hy).2)
        have HLB : Hid (∀ y ∈ ob ra rc, y < w7.heap.size) := Lib.hid (fun y hy => (HB7.out.ob_ge y hy).2)
        clear hM ha5 hb5 hp7 kp7 v1lt HCF4 HCF3
        by_cases h8 : (8 : Int) < (M : Int)
        · go_wp2_with first
            | (refine wpList_load_row rfl 26 _ rfl q rfl 26 #[.int .i64 srt, .slice ia k ic, .slice ra k rc, .slice none 0 0, .int .i64 0] (0, 0) _ HR7.out Try.underlying26 rfl (by kernel_rfl) ?_)
            | (refine wpList_store_row rfl 26 _ _ rfl q #[.int .i64 srt, .slice ia k ic, .slice ra k rc, .slice none 0 0, .int .i64 0] rfl rfl 26 _ HR7.out (by kernel_rfl) rfl (by simp [Value.oneCell']) ?_)
          refine bodyPost_ret (v := .tuple #[.agg #[.int .i64 srt, .slice ia k ic, .slice ra k rc, .slice none 0 0, .int .i64 0], .bool false]) (results_cellq Try.results52 _ _ q 26 #[.int .i64 srt, .slice ia k ic, .slice ra k rc, .slice none 0 0, .int .i64 0] (0, 0) _ rfl (setRow_heap _ q _ _ _ _ HR7.out) Try.underlying26 rfl (by kernel_rfl)) rfl (.inl ⟨by rw [HCF5.out, if_pos (by omega)], ⟨_, _, HP7.out.keepS ((Kp.refl [q] _).setRow2 _ _ (.inl (by simp))) (by intro y hy; simp at hy; omega)⟩, ?_, HK7.out.setRow2 _ _ (.inr (by have := HQ.out; omega))⟩)
          obtain ⟨d, hd⟩ := fail_cfg srt ia k ic ra rc none 0 0 0
          exact ⟨d, by rw [← hd]⟩
        · have HCF6 : Hid (cfgF zs k a0 b0 = cfgS zs srt A B (splF zs k M a5 b5 [])) := Lib.hid (by rw [HCF5.out, if_neg (by omega)])
          clear HCF5
          go_wp2_with fail
          go_loopw [8, 51] (fun _ vi wr => ∃ (j a : Nat) (b : Bool) (P : List Int) (sa : Option Addr) (sc : Nat), j ≤ M ∧ vi = .int .i64 j ∧ Hid (j = P.length) ∧ Hid (wr.heap[q]? = some (.cells #[.int .i64 srt, .slice ia k ic, .slice ra k rc, .slice sa j sc, .int .i64 0] 26)) ∧ Hid (Own wr w7.heap.size 3 .i64 sa sc P) ∧ Hid (OwnS bcells 1 wr (q + 1) 4 ia ic A) ∧ Hid (OwnS bcells 1 wr (q + 1) 4 ra rc B) ∧ Hid (Rdr wr L p zs a b) ∧ Hid (splF zs k M a5 b5 [] = splF zs k (M - j) a b P) ∧ Hid (Kp [p] w wr) ∧ Hid (w7.heap.size ≤ wr.heap.size)) (fun _ vi _ => M - (intOf vi).toNat)
          case atStart => exact ⟨0, a5, b5, [], none, 0, Nat.zero_le _, rfl, Lib.hid rfl, HR7, Lib.hid (Own.nil _ _ _ _), HA7, HB7, HP7, Lib.hid rfl, HK7, Lib.hid (Nat.le_refl _)⟩
          case round =>
            clear HP7 HK7 HA7 HB7 HR7
            obtain ⟨j, a, b, P, sa, sc, hj, rfl, HPL, HR, HOP, HOA, HOB, HRD, HX, HK, HSZ8⟩ := hrel
            obtain ⟨w8, rfl⟩ : ∃ w8, w8 = wr := ⟨_, rfl⟩
            have hq8 : q < w8.heap.size := lt_of_heap HR.out
            by_cases hlt : j < M
            · have hst := HX.out
              rw [show M - j = (M - (j + 1)) + 1 by omega, splF] at hst
              have v2lt := rdN_lt zs a b 2 HB.out
              go_wp2_with fail
              refine (cu16_any p zs a b w8 HRD.out HB.out).mono ?_
              rintro e w9 ⟨rfl, hp9, kp9⟩
              obtain ⟨v2, hv2⟩ : ∃ v, v = rdN zs a b 2 := ⟨_, rfl⟩
              obtain ⟨a6, ha6⟩ : ∃ v, v = rdA zs a b 2 := ⟨_, rfl⟩
              obtain ⟨b6, hb6⟩ : ∃ v, v = rdB zs a b 2 := ⟨_, rfl⟩
              rw [← hv2, ← ha6, ← hb6] at hst
              rw [← hv2] at v2lt ⊢
              rw [← ha6, ← hb6] at hp9
              have v2l : v2 < 65536 := v2lt
              have HST := Lib.hid hst
              have HP9 := Lib.hid hp9
              have HK9 := Lib.hid (kp_same HK.out kp9)
              have HA9 := Lib.hid (HOA.out.keep kp9 (fun y hy hx => by have := (HOA.out.ob_ge y hy).1; simp at hx; omega))
              have HB9 := Lib.hid (HOB.out.keep kp9 (fun y hy hx => by have := (HOB.out.ob_ge y hy).1; simp at hx; omega))
              have HO9 := Lib.hid (HOP.out.keep kp9 (fun y hy hx => by have := (HOP.out.ob_ge y hy).1; simp at hx; omega))
              have HR9 := Lib.hid (kp9.get HR.out (by simp; omega))
              have hq9 : q < w9.heap.size := lt_of_heap HR9.out
              have HSZ9 : Hid (w7.heap.size ≤ w9.heap.size) := Lib.hid (Nat.le_trans HSZ8.out kp9.size)
              clear hv2 ha6 hb6 hst hp9 kp9 v2lt
              go_upto_region 17 with (fail)
              go_cut [63] (fun v63 wx => v63 = .bool (decide (k ≤ v2 ∧ b6 = false)) ∧ w9 = wx)
              case first =>
                by_cases h1 : (k : Int) ≤ (v2 : Int)
                · go_wp2_with fail
                  refine (cbad_any p zs a6 b6 w9 HP9.out).mono ?_
                  rintro e w4' ⟨rfl, h4⟩
                  subst w4'
                  cases b6
                  · go_wp2_with fail
                    go_meet
                    exact ⟨by rw [decide_eq_true ⟨by omega, by simp⟩], rfl⟩
                  · go_wp2_with fail
                    go_meet
                    exact ⟨by rw [decide_eq_false (by simp)], rfl⟩
                · go_wp2_with fail
                  go_meet
                  exact ⟨by rw [decide_eq_false (by omega)], rfl⟩
              obtain ⟨rfl, h4⟩ := hcut
              subst wc
              by_cases hbad : k ≤ v2 ∧ b6 = false
              · rw [decide_eq_true hbad]
                have HBD := Lib.hid hbad
                clear hbad
                go_wp2_with first
                  | (refine wpList_load_row rfl 26 _ rfl q rfl 26 #[.int .i64 srt, .slice ia k ic, .slice ra k rc, .slice sa j sc, .int .i64 0] (0, 0) _ HR9.out Try.underlying26 rfl (by kernel_rfl) ?_)
                  | (refine wpList_store_row rfl 26 _ _ rfl q #[.int .i64 srt, .slice ia k ic, .slice ra k rc, .slice sa j sc, .int .i64 0] rfl rfl 26 _ HR9.out (by kernel_rfl) rfl (by simp [Value.oneCell']) ?_)
                refine bodyPost_ret (v := .tuple #[.agg #[.int .i64 srt, .slice ia k ic, .slice ra k rc, .slice sa j sc, .int .i64 0], .bool false]) (results_cellq Try.results52 _ _ q 26 #[.int .i64 srt, .slice ia k ic, .slice ra k rc, .slice sa j sc, .int .i64 0] (0, 0) _ rfl (setRow_heap _ q _ _ _ _ HR9.out) Try.underlying26 rfl (by kernel_rfl)) rfl (.inl ⟨by rw [HCF6.out, HST.out, if_pos HBD.out]; rfl, ⟨_, _, HP9.out.keepS ((Kp.refl [q] _).setRow2 _ _ (.inl (by simp))) (by intro y hy; simp at hy; omega)⟩, ?_, HK9.out.setRow2 _ _ (.inr (by have := HQ.out; omega))⟩)
                obtain ⟨d, hd⟩ := fail_cfg srt ia k ic ra rc sa j sc 0
                exact ⟨d, by rw [← hd]⟩
              · rw [decide_eq_false hbad]
                have HST2 : Hid (splF zs k M a5 b5 [] = splF zs k (M - (j + 1)) a6 b6 (P ++ [(v2 : Int)])) := Lib.hid (HST.out.trans (if_neg hbad))
                have c3 : w9.cell? ⟨q, 3, none⟩ = some (.slice sa j sc) := cell_of_row w9 q 3 _ _ _ HR9.out
                have hsz : w7.heap.size ≤ (w9.alloc (.cells #[.int .i64 (v2 : Int)] 3)).heap.size := by
                  have := HSZ9.out; simp; omega
                have HSZ := Lib.hid hsz
                clear hbad HST hsz
                go_upto_region 20 with (at_builtin; refine wpList_app rfl (.tmp 66) (.tmp 68) 24 24 rfl w7.heap.size 3 .i64 8 Try.underlying24 infoInt sa sc j P HPL.out [(v2 : Int)] _ 1 rfl rfl rfl (HO9.out.alloc _) (src_one Try.underlying24 (World.cell?_alloc_at _ _ _ _ rfl)) (by omega) (by omega) HSZ.out ?_; intro sb sd wa hoa kpa _ _; have HOA1 := Lib.hid hoa; have HKX := Lib.hid (show Kp (ob sa sc) w9 wa from (((Kp.refl [] w9).alloc (.cells #[.int .i64 (v2 : Int)] 3)).trans kpa (by simp) (by intro y hy; exact .inl hy))); have ra := HKX.out.get HR9.out (fun hx => by have := (HOP.out.ob_ge q hx).1; omega); have c3a := cell_of_row wa q 3 _ _ _ ra; have f3a := frozen_of_row wa q 3 _ _ ra; have HRA := Lib.hid ra; simp only [List.getElem?_toArray, List.getElem?_cons_succ, List.getElem?_cons_zero] at c3a; clear hoa kpa ra)
                generalize hwb : wa.setCell _ _ = wb
                have RB : wb.heap[q]? = some (.cells #[.int .i64 srt, .slice ia k ic, .slice ra k rc, .slice sb (j + 1) sd, .int .i64 0] 26) := by
                  rw [← hwb, heap_setCell_same wa q 3 _ _ _ HRA.out]; rfl
                have KXB : Kp [q] wa wb := by rw [← hwb]; exact (Kp.refl [q] wa).setCell _ _ (by simp)
                have hgt : ∀ y ∈ ob sa sc, w7.heap.size ≤ y := fun y hy => (HOP.out.ob_ge y hy).1
                have HKa := Lib.hid (HK9.out.trans HKX.out (U := [p]) (by simp) (fun y hy => .inr (by have := hgt y hy; have := HQ.out; omega)))
                have HPa := Lib.hid (HP9.out.keepS HKX.out (fun y hy => by have := hgt y hy; omega))
                have HAa := Lib.hid (HA9.out.keep HKX.out (fun y hy hx => by have := hgt y hx; have := HLA.out y hy; omega))
                have HBa := Lib.hid (HB9.out.keep HKX.out (fun y hy hx => by have := hgt y hx; have := HLB.out y hy; omega))
                have HKb := Lib.hid (show Kp [p] w wb from HKa.out.trans KXB (by simp) (fun y hy => .inr (by simp at hy; have := HQ.out; omega)))
                have HPb := Lib.hid (HPa.out.keepS KXB (by intro y hy; simp at hy; omega))
                have HAb := Lib.hid (HAa.out.keep KXB (fun y hy hx => by have := (HAa.out.ob_ge y hy).1; simp at hx; omega))
                have HBb := Lib.hid (HBa.out.keep KXB (fun y hy hx => by have := (HBa.out.ob_ge y hy).1; simp at hx; omega))
                have HOb := Lib.hid (HOA1.out.keep KXB (fun y hy hx => by have := (HOA1.out.ob_ge y hy).1; simp at hx; omega))
                have HRb := Lib.hid RB
                have HSb : Hid (w7.heap.size ≤ wb.heap.size) := Lib.hid (Nat.le_trans HSZ9.out (Nat.le_trans HKX.out.size KXB.size))
                clear hwb KXB RB hgt c3 c3a f3a
                go_wp2_with fail
                go_roundw
                case rel => exact ⟨j + 1, a6, b6, P ++ [(v2 : Int)], sb, sd, hlt, by go_num, Lib.hid (by rw [List.length_append, ← HPL.out]; rfl), HRb, HOb, HAb, HBb, HPb, HST2, HKb, HSb⟩
                case measure => simp [intOf]; omega
            · obtain rfl : j = M := by omega
              have HCF7 : Hid (cfgF zs k a0 b0 = some (mkC srt A B P (rdN zs a b 4 : Nat), rdA zs a b 4, rdB zs a b 4)) := Lib.hid (by rw [HCF6.out, HX.out, Nat.sub_self, splF, cfgS])
              have v4lt := rdN_lt zs a b 4 HB.out
              go_wp2_with fail
              refine (cu32_any p zs a b w8 HRD.out HB.out).mono ?_
              rintro e w9 ⟨rfl, hp9, kp9⟩
              obtain ⟨v4, hv4⟩ : ∃ v, v = rdN zs a b 4 := ⟨_, rfl⟩
              rw [← hv4] at v4lt ⊢
              have HCF8 : Hid (cfgF zs k a0 b0 = some (mkC srt A B P (v4 : Nat), rdA zs a b 4, rdB zs a b 4)) := Lib.hid (by rw [HCF7.out, hv4])
              have v4l : v4 < 4294967296 := v4lt
              have HP9 := Lib.hid hp9
              have HK9 := Lib.hid (kp_same HK.out kp9)
              have HA9 := Lib.hid (HOA.out.keep kp9 (fun y hy hx => by have := (HOA.out.ob_ge y hy).1; simp at hx; omega))
              have HB9 := Lib.hid (HOB.out.keep kp9 (fun y hy hx => by have := (HOB.out.ob_ge y hy).1; simp at hx; omega))
              have HO9 := Lib.hid (HOP.out.keep kp9 (fun y hy hx => by have := (HOP.out.ob_ge y hy).1; simp at hx; omega))
              have r9 := kp9.get HR.out (by simp; omega)
              have HR9 := Lib.hid r9
              have c4 : w9.cell? ⟨q, 4, none⟩ = some (.int .i64 0) := cell_of_row w9 q 4 _ _ _ r9
              have f4 := frozen_of_row w9 q 4 _ _ r9
              clear hv4 hp9 kp9 v4lt HCF7 r9
              go_upto_region 22 with (fail)
              generalize hwb : w9.setCell _ _ = wb
              have RB : wb.heap[q]? = some (.cells #[.int .i64 srt, .slice ia k ic, .slice ra k rc, .slice sa j sc, .int .i64 (v4 : Int)] 26) := by
                rw [← hwb, heap_setCell_same w9 q 4 _ _ _ HR9.out]; rfl
              have KXB : Kp [q] w9 wb := by rw [← hwb]; exact (Kp.refl [q] w9).setCell _ _ (by simp)
              have HRB := Lib.hid RB
              have KXC := KXB.setRow2 q #[.int .i64 srt, .slice ia k ic, .slice ra k rc, .slice sa j sc, .int .i64 (v4 : Int)] (.inl (by simp))
              have HKC := Lib.hid KXC
              clear hwb KXB RB c4 f4 KXC
              go_wp2_with first
                | (refine wpList_load_row rfl 26 _ rfl q rfl 26 #[.int .i64 srt, .slice ia k ic, .slice ra k rc, .slice sa j sc, .int .i64 (v4 : Int)] (0, 0) _ HRB.out Try.underlying26 rfl (by kernel_rfl) ?_)
                | (refine wpList_store_row rfl 26 _ _ rfl q #[.int .i64 srt, .slice ia k ic, .slice ra k rc, .slice sa j sc, .int .i64 (v4 : Int)] rfl rfl 26 _ HRB.out (by kernel_rfl) rfl (by simp [Value.oneCell']) ?_)
              refine bodyPost_ret (v := .tuple #[.agg #[.int .i64 srt, .slice ia k ic, .slice ra k rc, .slice sa j sc, .int .i64 (v4 : Int)], .bool true]) (results_cellq Try.results52 _ _ q 26 #[.int .i64 srt, .slice ia k ic, .slice ra k rc, .slice sa j sc, .int .i64 (v4 : Int)] (0, 0) _ rfl (setRow_heap _ q _ _ _ _ HRB.out) Try.underlying26 rfl (by kernel_rfl)) rfl (.inr ⟨mkC srt A B P (v4 : Nat), ⟨srt, ia, ic, A, ra, rc, B, sa, sc, P, (v4 : Nat)⟩, _, _, HCF8.out, ?_, ⟨rfl, rfl, rfl, rfl, rfl⟩, ⟨?_, ?_, ?_⟩, HP9.out.keepS HKC.out (by intro y hy; simp at hy; omega), HK9.out.trans HKC.out (by simp) (fun y hy => .inr (by simp at hy; have := HQ.out; omega))⟩)
              · rw [cfgV, ← HA.out, ← HBL.out, ← HPL.out]
              · exact (HA9.out.keep HKC.out (fun y hy hx => by have := (HA9.out.ob_ge y hy).1; simp at hx; omega)).mono (by have := HQ.out; omega)
              · exact (HB9.out.keep HKC.out (fun y hy hx => by have := (HB9.out.ob_ge y hy).1; simp at hx; omega)).mono (by have := HQ.out; omega)
              · exact (HO9.out.keep HKC.out (fun y hy hx => by have := (HO9.out.ob_ge y hy).1; simp at hx; omega)).mono (by have := HQ.out; omega)
end Go.Proofs.Ytegnobdablbahaa
