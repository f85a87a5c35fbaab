/-
  Schema: a copy of a configuration; what is known.
-/
import Derived.Test.YtegnobdablbahaaSchB
import Derived.Test.YtegnobdablbahaaSchA
import Derived.Test.YtegnobdablbahaaSch8
namespace Go.Proofs.Ytegnobdablbahaa
open Go.RowKit
set_option linter.unusedSimpArgs false
set_option linter.unusedVariables false

theorem infoBool : (Try.prog.info? 4).map (fun i => (i.zero, i.size, i.bytes)) = some (some (.bool false), 1, 1) := by kernel_rfl
theorem infoInt : (Try.prog.info? 3).map (fun i => (i.zero, i.size, i.bytes)) = some (some (.int .i64 0), 1, 8) := by kernel_rfl
theorem infoColm : (Try.prog.info? 38).map (fun i => (i.zero, i.size, i.bytes)) = some (some (.agg #[.string ⟨#[]⟩, .int .u8 0]), 2, 24) := by kernel_rfl

/-- The same but for where it lies. -/
def alike (c d : Cfg) : Prop := d.srt = c.srt ∧ d.inv = c.inv ∧ d.rng = c.rng ∧ d.spl = c.spl ∧ d.leaf = c.leaf
theorem alike_same {c d : Cfg} (h : alike c d) : sameC c d = true := by
  obtain ⟨h1, h2, h3, h4, h5⟩ := h
  simp only [sameC, Bool.and_eq_true, nupto, decide_eq_true_eq]
  refine ⟨fun k _ => by simp [difF, h2, h3], h1.symm, (eqI_iff _ _).2 h4.symm, h5.symm⟩

theorem Kp.setRow2 {S : List Nat} {a b : World} (h : Kp S a b) (g : Nat) (cs : Array Value) (hp : g ∈ S ∨ a.heap.size ≤ g) : Kp S a (b.setRow g cs) :=
  ⟨h.os, h.tape, h.output, by have := h.size; simpa [World.setRow] using this, fun k hk hn => by
    rw [setRow_other _ _ _ _ (fun e => by rcases hp with hp | hp; exact hn (e ▸ hp); omega)]; exact h.block k hk hn⟩
theorem src_rdB {w : World} {ad : Option Addr} {cap n : Nat} {l : List Bool} (hn : n = l.length) (h : RdB w ad cap l) : Src Try.prog 1 23 (.slice ad n cap) n (l.flatMap bcells) w := by
  subst hn
  exact src_rdS (P := Try.prog) blies h (tx := 23) (e' := 4) Try.underlying23
theorem src_rdI {w : World} {ad : Option Addr} {cap n : Nat} {l : List Int} (hn : n = l.length) (h : Rd w .i64 ad cap l) : Src Try.prog 1 24 (.slice ad n cap) n (l.map (Value.int .i64)) w := by
  subst hn
  exact src_rd (P := Try.prog) h (tx := 24) (e' := 3) Try.underlying24

set_option maxHeartbeats 800000 in
theorem r17Copy_any (c : Cfg) (w : World) (hc : RdCfg w c) (h1 : c.inv.length ≤ 1000000) (h2 : c.rng.length ≤ 1000000) (h3 : c.spl.length ≤ 1000000) :
    Calls Try.prog 13 #[cfgV c] w fun e w' => ∃ d, e = .returned (cfgV d) ∧ RdCfg w' d ∧ alike c d ∧ Kp [] w w' := by
  have HC := Lib.hid hc
  clear hc
  have HR : Hid (∀ (d : Cfg) (w' : World), RdCfg w' d → alike c d → Kp [] w w' → ∃ d, Ending.returned (cfgV d) = .returned (cfgV d) ∧ RdCfg w' d ∧ alike c d ∧ Kp [] w w') := Lib.hid fun d w' g1 g2 g3 => ⟨d, rfl, g1, g2, g3⟩
  obtain ⟨srt, ia, ic, inv, ra, rc, rng, sa, sc, spl, leaf⟩ := c
  dsimp only at h1 h2 h3
  have HC1 := Lib.hid HC.out.1
  have HC2 := Lib.hid HC.out.2.1
  have HC3 := Lib.hid HC.out.2.2
  dsimp only at HC1 HC2 HC3
  clear HC
  simp only [cfgV]
  obtain ⟨ni, hni⟩ : ∃ ni, ni = inv.length := ⟨_, rfl⟩
  obtain ⟨nr, hnr⟩ : ∃ nr, nr = rng.length := ⟨_, rfl⟩
  obtain ⟨ns, hns⟩ : ∃ ns, ns = spl.length := ⟨_, rfl⟩
  rw [← hni, ← hnr, ← hns]
  rw [← hni] at h1
  rw [← hnr] at h2
  rw [← hns] at h3
  have HNI := Lib.hid hni
  have HNR := Lib.hid hnr
  have HNS := Lib.hid hns
  clear hni hnr hns
  go_enter Try.func13, Try.ntmps13
  go_upto_region 1 with (fail)
  generalize hw2 : (w.alloc _).alloc _ = w2
  have R0 : w2.heap[w.heap.size]? = some (.cells #[.int .i64 srt, .slice ia ni ic, .slice ra nr rc, .slice sa ns sc, .int .i64 leaf] 26) := by rw [← hw2]; exact cells_alloc (heap_alloc_at rfl)
  have Z0 : w2.heap[w.heap.size + 1]? = some (.cells #[.int .i64 0, .slice none 0 0, .slice none 0 0, .slice none 0 0, .int .i64 0] 26) := by rw [← hw2]; exact heap_alloc_at (by simp)
  have HK2 := Lib.hid (show Kp [] w w2 by rw [← hw2]; exact ((Kp.refl [] w).alloc _).alloc _)
  have HW0 : Hid (w.heap.size + 2 ≤ w2.heap.size) := Lib.hid (by rw [← hw2]; simp)
  clear hw2
  have HY0 : Hid (w2.heap.size ≤ w2.heap.size) := Lib.hid (Nat.le_refl _)
  have HR0 := Lib.hid R0
  have HZ0 := Lib.hid Z0
  have c0 : w2.cell? ⟨w.heap.size, 1, none⟩ = some (.slice ia ni ic) := cell_of_row w2 w.heap.size 1 _ _ _ R0
  have hlt0 := lt_of_heap Z0
  have hlu0 := lt_of_heap R0
  have HB0 : Hid (w2.heap.size ≤ (w2.alloc (.cells #[] 4)).heap.size) := Lib.hid (by simp)
  clear R0 Z0
  go_upto_region 2 with (at_builtin; refine wpList_appS blies rfl (.tmp 3) (.tmp 5) 23 23 rfl w2.heap.size 4 (.bool false) 1 Try.underlying23 infoBool rfl _ 0 0 [] rfl inv (.slice ia ni ic) ni HNI.out rfl rfl (.inl ⟨rfl, rfl⟩) (src_rdB HNI.out (HC1.out.keep0 (HK2.out.alloc _))) (by omega) (by omega) HB0.out ?_; intro ad1 cap1 x1 ho1 kp1 _ _; have HO1 := Lib.hid ho1; have KX1 := Lib.hid (show Kp [] w2 x1 from ((Kp.refl [] w2).alloc _).tr kp1); have d1 := KX1.out.cell c0 (by simp); have f1 := frozen_of_row x1 w.heap.size 1 _ _ (KX1.out.get HR0.out (by simp)); clear ho1 kp1)
  try simp only [Nat.zero_add]
  generalize hy1 : x1.setCell _ _ = y1
  have R1 : y1.heap[w.heap.size]? = some (.cells #[.int .i64 srt, .slice ad1 ni cap1, .slice ra nr rc, .slice sa ns sc, .int .i64 leaf] 26) := by rw [← hy1]; rw [heap_setCell_same x1 w.heap.size 1 _ _ _ (KX1.out.get HR0.out (by simp))]; rfl
  have KY1 := Lib.hid (show Kp [w.heap.size] x1 y1 by rw [← hy1]; exact (Kp.refl [w.heap.size] x1).setCell _ _ (by simp))
  have Z1 : y1.heap[w.heap.size + 1]? = _ := KY1.out.get (KX1.out.get HZ0.out (by simp)) (by simp)
  have HK3 := Lib.hid (show Kp [] w y1 by rw [← hy1]; exact (HK2.out.tr KX1.out).setCell _ _ (.inr (Nat.le_refl _)))
  have HY1 : Hid (w2.heap.size ≤ y1.heap.size) := Lib.hid (Nat.le_trans HY0.out (Nat.le_trans KX1.out.size KY1.out.size))
  clear hy1 d1 f1 c0
  have HR1 := Lib.hid R1
  have HZ1 := Lib.hid Z1
  have c1 : y1.cell? ⟨w.heap.size, 2, none⟩ = some (.slice ra nr rc) := cell_of_row y1 w.heap.size 2 _ _ _ R1
  have hlt1 := lt_of_heap Z1
  have hlu1 := lt_of_heap R1
  have HB1 : Hid (w2.heap.size ≤ (y1.alloc (.cells #[] 4)).heap.size) := Lib.hid (by have := HY1.out; simp <;> omega)
  clear R1 Z1
  go_upto_region 3 with (at_builtin; refine wpList_appS blies rfl (.tmp 8) (.tmp 10) 23 23 rfl w2.heap.size 4 (.bool false) 1 Try.underlying23 infoBool rfl _ 0 0 [] rfl rng (.slice ra nr rc) nr HNR.out rfl rfl (.inl ⟨rfl, rfl⟩) (src_rdB HNR.out (HC2.out.keep0 (HK3.out.alloc _))) (by omega) (by omega) HB1.out ?_; intro ad2 cap2 x2 ho2 kp2 _ _; have HO2 := Lib.hid ho2; have KX2 := Lib.hid (show Kp [] y1 x2 from ((Kp.refl [] y1).alloc _).tr kp2); have d2 := KX2.out.cell c1 (by simp); have f2 := frozen_of_row x2 w.heap.size 2 _ _ (KX2.out.get HR1.out (by simp)); clear ho2 kp2)
  try simp only [Nat.zero_add]
  generalize hy2 : x2.setCell _ _ = y2
  have R2 : y2.heap[w.heap.size]? = some (.cells #[.int .i64 srt, .slice ad1 ni cap1, .slice ad2 nr cap2, .slice sa ns sc, .int .i64 leaf] 26) := by rw [← hy2]; rw [heap_setCell_same x2 w.heap.size 2 _ _ _ (KX2.out.get HR1.out (by simp))]; rfl
  have KY2 := Lib.hid (show Kp [w.heap.size] x2 y2 by rw [← hy2]; exact (Kp.refl [w.heap.size] x2).setCell _ _ (by simp))
  have Z2 : y2.heap[w.heap.size + 1]? = _ := KY2.out.get (KX2.out.get HZ1.out (by simp)) (by simp)
  have HK4 := Lib.hid (show Kp [] w y2 by rw [← hy2]; exact (HK3.out.tr KX2.out).setCell _ _ (.inr (Nat.le_refl _)))
  have HY2 : Hid (w2.heap.size ≤ y2.heap.size) := Lib.hid (Nat.le_trans HY1.out (Nat.le_trans KX2.out.size KY2.out.size))
  clear hy2 d2 f2 c1
  have HR2 := Lib.hid R2
  have HZ2 := Lib.hid Z2
  have c2 : y2.cell? ⟨w.heap.size, 3, none⟩ = some (.slice sa ns sc) := cell_of_row y2 w.heap.size 3 _ _ _ R2
  have hlt2 := lt_of_heap Z2
  have hlu2 := lt_of_heap R2
  have HB2 : Hid (w2.heap.size ≤ (y2.alloc (.cells #[] 3)).heap.size) := Lib.hid (by have := HY2.out; simp <;> omega)
  clear R2 Z2
  go_upto_region 4 with (at_builtin; refine wpList_app rfl (.tmp 13) (.tmp 15) 24 24 rfl w2.heap.size 3 .i64 8 Try.underlying24 infoInt _ 0 0 [] rfl spl (.slice sa ns sc) ns HNS.out rfl rfl (.inl ⟨rfl, rfl⟩) (src_rdI HNS.out (HC3.out.keep0 (HK4.out.alloc _))) (by omega) (by omega) HB2.out ?_; intro ad3 cap3 x3 ho3 kp3 _ _; have HO3 := Lib.hid ho3; have KX3 := Lib.hid (show Kp [] y2 x3 from ((Kp.refl [] y2).alloc _).tr kp3); have d3 := KX3.out.cell c2 (by simp); have f3 := frozen_of_row x3 w.heap.size 3 _ _ (KX3.out.get HR2.out (by simp)); clear ho3 kp3)
  try simp only [Nat.zero_add]
  generalize hy3 : x3.setCell _ _ = y3
  have R3 : y3.heap[w.heap.size]? = some (.cells #[.int .i64 srt, .slice ad1 ni cap1, .slice ad2 nr cap2, .slice ad3 ns cap3, .int .i64 leaf] 26) := by rw [← hy3]; rw [heap_setCell_same x3 w.heap.size 3 _ _ _ (KX3.out.get HR2.out (by simp))]; rfl
  have KY3 := Lib.hid (show Kp [w.heap.size] x3 y3 by rw [← hy3]; exact (Kp.refl [w.heap.size] x3).setCell _ _ (by simp))
  have Z3 : y3.heap[w.heap.size + 1]? = _ := KY3.out.get (KX3.out.get HZ2.out (by simp)) (by simp)
  have HK5 := Lib.hid (show Kp [] w y3 by rw [← hy3]; exact (HK4.out.tr KX3.out).setCell _ _ (.inr (Nat.le_refl _)))
  have HY3 : Hid (w2.heap.size ≤ y3.heap.size) := Lib.hid (Nat.le_trans HY2.out (Nat.le_trans KX3.out.size KY3.out.size))
  clear hy3 d3 f3 c2
  have HR3 := Lib.hid R3
  have HZ3 := Lib.hid Z3
  clear R3 Z3
  go_wp2_with first
    | (refine wpList_load_row rfl 26 _ rfl w.heap.size rfl 26 #[.int .i64 srt, .slice ad1 ni cap1, .slice ad2 nr cap2, .slice ad3 ns cap3, .int .i64 leaf] (0, 0) _ HR3.out Try.underlying26 rfl (by kernel_rfl) ?_)
    | (refine wpList_store_row rfl 26 _ _ rfl (w.heap.size + 1) #[.int .i64 srt, .slice ad1 ni cap1, .slice ad2 nr cap2, .slice ad3 ns cap3, .int .i64 leaf] rfl rfl 26 _ HZ3.out (by kernel_rfl) rfl (by simp [Value.oneCell']) ?_)
  have KR : Hid (Kp [w.heap.size + 1] y3 (y3.setRow (w.heap.size + 1) #[.int .i64 srt, .slice ad1 ni cap1, .slice ad2 nr cap2, .slice ad3 ns cap3, .int .i64 leaf])) := Lib.hid ((Kp.refl [w.heap.size + 1] y3).setRow2 _ _ (.inl (by simp)))
  have o1 := (((((HO1.out.keep KY1.out (fun b hb hx => by have := (HO1.out.ob_ge b hb).1; have := HW0.out; simp at hx; omega)).keep0 KX2.out).keep KY2.out (fun b hb hx => by have := (HO1.out.ob_ge b hb).1; have := HW0.out; simp at hx; omega)).keep0 KX3.out).keep KY3.out (fun b hb hx => by have := (HO1.out.ob_ge b hb).1; have := HW0.out; simp at hx; omega)).keep KR.out (fun b hb hx => by have := (HO1.out.ob_ge b hb).1; have := HW0.out; simp at hx; omega)
  have o2 := (((HO2.out.keep KY2.out (fun b hb hx => by have := (HO2.out.ob_ge b hb).1; have := HW0.out; simp at hx; omega)).keep0 KX3.out).keep KY3.out (fun b hb hx => by have := (HO2.out.ob_ge b hb).1; have := HW0.out; simp at hx; omega)).keep KR.out (fun b hb hx => by have := (HO2.out.ob_ge b hb).1; have := HW0.out; simp at hx; omega)
  have o3 := (HO3.out.keep KY3.out (fun b hb hx => by have := (HO3.out.ob_ge b hb).1; have := HW0.out; simp at hx; omega)).keep KR.out (fun b hb hx => by have := (HO3.out.ob_ge b hb).1; have := HW0.out; simp at hx; omega)
  rw [List.nil_append] at o1 o2 o3
  have kz := HK5.out.setRow2 (w.heap.size + 1) #[.int .i64 srt, .slice ad1 ni cap1, .slice ad2 nr cap2, .slice ad3 ns cap3, .int .i64 leaf] (.inr (by omega))
  refine bodyPost_ret (v := .agg #[.int .i64 srt, .slice ad1 ni cap1, .slice ad2 nr cap2, .slice ad3 ns cap3, .int .i64 leaf]) (results_cell_row Try.results13 _ _ (w.heap.size + 1) 26 #[.int .i64 srt, .slice ad1 ni cap1, .slice ad2 nr cap2, .slice ad3 ns cap3, .int .i64 leaf] (0, 0) _ rfl (setRow_heap _ (w.heap.size + 1) _ _ _ _ HZ3.out) Try.underlying26 rfl (by kernel_rfl)) rfl ⟨⟨srt, ad1, cap1, inv, ad2, cap2, rng, ad3, cap3, spl, leaf⟩, ?_, ⟨o1.rd blies, o2.rd blies, o3.rd⟩, ⟨rfl, rfl, rfl, rfl, rfl⟩, kz⟩
  rw [HNI.out, HNR.out, HNS.out]
end Go.Proofs.Ytegnobdablbahaa
