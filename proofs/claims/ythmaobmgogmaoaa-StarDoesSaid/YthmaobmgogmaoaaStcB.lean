/-
  The document's star-trees: which ids come first; a record with another one's rows.
  The document's star-trees: a record with another one's rows.
-/
import Derived.Test.YthmaobmgogmaoaaStbX
namespace Go.Proofs.Ythmaobmgogmaoaa
open Go.RowKit Go.Shelf
set_option linter.unusedSimpArgs false
set_option linter.unusedVariables false
set_option maxRecDepth 100000

theorem ltI_step (a b : Int) (s t : List Int) : ltI (a :: s) (b :: t) = if a = b then ltI s t else decide (a < b) := by
  unfold ltI
  rw [show cmpIs (a :: s) (b :: t) = if a < b then -1 else if b < a then 1 else cmpIs s t by conv => lhs; unfold cmpIs]
  by_cases h1 : a = b
  · subst h1; simp
  · rw [if_neg h1]
    by_cases h2 : a < b
    · simp [h2]
    · have h3 : b < a := by omega
      simp [h2, h3]
theorem ltI_drop {a b : List Int} {i : Nat} (ha : i < a.length) (hb : i < b.length) : ltI (a.drop i) (b.drop i) = if nth a i = nth b i then ltI (a.drop (i + 1)) (b.drop (i + 1)) else decide (nth a i < nth b i) := by
  rw [drop_at ha, drop_at hb, ltI_step]
set_option maxHeartbeats 1600000 in
theorem r19less_any (aa : Option Addr) (ac n : Nat) (a : List Int) (hn : n = a.length) (ba : Option Addr) (bc : Nat) (b : List Int) (hm : n = b.length) (w : World) (ha : Rd w .i64 aa ac a) (hb : Rd w .i64 ba bc b) :
    Calls Try.prog 50 #[.slice aa n ac, .slice ba n bc] w fun e w' => e = .returned (.bool (ltI a b)) ∧ Kp [] w w' := by
  have HN := Lib.hid hn
  have HM := Lib.hid hm
  have HA := Lib.hid ha
  have HB := Lib.hid hb
  have hcap := ha.1
  rw [← hn] at hcap
  have hcap2 := ha.2.1
  have hcapb := hb.1
  rw [← hm] at hcapb
  have hcapb2 := hb.2.1
  clear hn hm ha hb
  obtain ⟨v, hv⟩ : ∃ v, v = ltI a b := ⟨_, rfl⟩
  rw [← hv]
  have HV := Lib.hid hv
  clear hv
  go_enter Try.func50, Try.ntmps50
  go_wp2_with fail
  go_loopw [5] (fun vi wr => ∃ k : Nat, k ≤ n ∧ vi = .int .i64 k ∧ Hid (v = ltI (a.drop k) (b.drop k)) ∧ Hid (Kp [] w wr)) (fun vi _ => n - (intOf vi).toNat)
  case atStart => exact ⟨0, Nat.zero_le _, rfl, HV, Lib.hid (Kp.refl _ _)⟩
  case round =>
    obtain ⟨k, hk, rfl, HX, HK⟩ := hrel
    obtain ⟨wo, rfl⟩ : ∃ wo : World, wo = wr := ⟨_, rfl⟩
    by_cases hlt : k < n
    · obtain ⟨b1, off1, rfl, c1⟩ := (HA.out.keep0 HK.out).2.2 k (by rw [← HN.out]; exact hlt)
      obtain ⟨b2, off2, rfl, c2⟩ := (HB.out.keep0 HK.out).2.2 k (by rw [← HM.out]; exact hlt)
      have HST : Hid (v = if nth a k = nth b k then ltI (a.drop (k + 1)) (b.drop (k + 1)) else decide (nth a k < nth b k)) := Lib.hid (by
        rw [HX.out]; exact ltI_drop (by rw [← HN.out]; exact hlt) (by rw [← HM.out]; exact hlt))
      obtain ⟨x, hx⟩ : ∃ x, x = nth a k := ⟨_, rfl⟩
      obtain ⟨y, hy⟩ : ∃ y, y = nth b k := ⟨_, rfl⟩
      rw [← hx] at c1
      rw [← hy] at c2
      rw [← hx, ← hy] at HST
      clear hx hy
      have C1 := Lib.hid c1
      have C2 := Lib.hid c2
      by_cases hxy : x = y
      · have HF := Lib.hid (HST.out.trans (if_pos hxy))
        have hb1 : (x != y) = false := by simp [hxy]
        clear hxy
        go_wp2_with go_quiet (fail)
        go_roundw
        case rel => exact ⟨k + 1, hlt, by go_num, HF, Lib.hid (HK.out.tr (kdNs _ _))⟩
        case measure => simp [intOf]; omega
      · have HF := Lib.hid (HST.out.trans (if_neg hxy))
        have hb1 : (x != y) = true := by simp [hxy]
        clear hxy
        go_upto_region 4 with (fail)
        go_cut [20] (fun v20 wx => v20 = .bool true ∧ Hid (Kp [] wo wx))
        case first =>
          go_wp2_with go_quiet (fail)
          go_meet
          exact ⟨by first | rfl | simp_all, Lib.hid (kdNs _ _)⟩
        obtain ⟨rfl, HK4⟩ := hcut
        obtain ⟨w4, rfl⟩ : ∃ w4 : World, w4 = wc := ⟨_, rfl⟩
        have c1 := HK4.out.cell C1.out (by simp)
        have c2 := HK4.out.cell C2.out (by simp)
        go_wp2_with go_quiet (fail)
        go_ret
        exact ⟨by rw [HF.out]; rfl, (HK.out.tr HK4.out).tr (kdNs _ _)⟩
    · obtain rfl : k = n := by omega
      have HF : Hid (v = false) := Lib.hid (by
        rw [HX.out, List.drop_eq_nil_of_le (by rw [← HN.out]; exact Nat.le_refl _), List.drop_eq_nil_of_le (by rw [← HM.out]; exact Nat.le_refl _)]; rfl)
      go_wp2_with fail
      go_ret
      exact ⟨by rw [HF.out]; rfl, HK.out⟩
end Go.Proofs.Ythmaobmgogmaoaa
namespace Go.Proofs.Ythmaobmgogmaoaa
open Go.RowKit Go.Shelf
set_option linter.unusedSimpArgs false
set_option linter.unusedVariables false
set_option maxRecDepth 100000

/-- A record in a variable. -/
def ARow (w : World) (b : Nat) (ia : Option Addr) (k ic : Nat) (cnt : Int) (sa : Option Addr) (sc : Nat) (la : Option Addr) (lc : Nat) (ga : Option Addr) (gc n1 n2 n3 : Nat) : Prop := w.heap[b]? = some (.cells #[.slice ia k ic, .int .i64 cnt, .slice sa n1 sc, .slice la n2 lc, .slice ga n3 gc] 34)
theorem arow_cell {w : World} {b : Nat} {cs : Array Value} {t : TypeId} {fr : Nat × Nat} (h : w.heap[b]? = some (.cells cs t fr)) (j : Nat) {v : Value} (hv : cs[j]? = some v) : w.cell? ⟨b, j, none⟩ = some v := by
  rw [cell_of_row w b j _ _ _ h]; exact hv
theorem zipWith_step {α : Type} {f : α → α → α} {a b : List α} {t : Nat} {x y : α} (ha : a[t]? = some x) (hb : b[t]? = some y) : (List.zipWith f a b).take (t + 1) = (List.zipWith f a b).take t ++ [f x y] := by
  refine take_snoc ?_
  rw [List.getElem?_zipWith, ha, hb]
/-- What stands while numbers are put together. -/
structure MgI (w5 : World) (b5 : Nat) (ia : Option Addr) (k ic : Nat) (cnt : Int) (Z : List S3) (ts tl tg : Nat) (sa : Option Addr) (sc : Nat) (la : Option Addr) (lc : Nat) (ga : Option Addr) (gc : Nat) (wr : World) : Prop where
  row : wr.heap[b5]? = some (.cells #[.slice ia k ic, .int .i64 cnt, .slice sa ts sc, .slice la tl lc, .slice ga tg gc] 34)
  os : Own wr w5.heap.size 2 .i64 sa sc ((Z.take ts).map (·.s))
  ol : Own wr w5.heap.size 2 .i64 la lc ((Z.take tl).map (·.l))
  og : Own wr w5.heap.size 2 .i64 ga gc ((Z.take tg).map (·.g))
  d1 : ∀ b ∈ ob sa sc, b ∉ ob la lc
  d2 : ∀ b ∈ ob sa sc, b ∉ ob ga gc
  d3 : ∀ b ∈ ob la lc, b ∉ ob ga gc
  kp : Kp [b5] w5 wr
theorem MgI.keep0 {w5 : World} {b5 : Nat} {ia : Option Addr} {k ic : Nat} {cnt : Int} {Z : List S3} {ts tl tg : Nat} {sa : Option Addr} {sc : Nat} {la : Option Addr} {lc : Nat} {ga : Option Addr} {gc : Nat} {w w' : World} (h : MgI w5 b5 ia k ic cnt Z ts tl tg sa sc la lc ga gc w) (hk : Kp [] w w') : MgI w5 b5 ia k ic cnt Z ts tl tg sa sc la lc ga gc w' :=
  ⟨hk.get h.row (by simp), h.os.keep0 hk, h.ol.keep0 hk, h.og.keep0 hk, h.d1, h.d2, h.d3, h.kp.trans hk (fun _ h => .inl h) (by simp)⟩
section
variable {w5 : World} {b5 : Nat} {ia : Option Addr} {k ic : Nat} {cnt : Int} {Z : List S3} {ts tl tg : Nat} {sa : Option Addr} {sc : Nat} {la : Option Addr} {lc : Nat} {ga : Option Addr} {gc : Nat} {w w2 : World} {n : Nat}
theorem MgI.setS (h : MgI w5 b5 ia k ic cnt Z ts tl tg sa sc la lc ga gc w) {ad' : Option Addr} {cap' : Nat} {z : Int} (hz : (Z.take (ts + 1)).map (·.s) = (Z.take ts).map (·.s) ++ [z]) (ho : Own w2 w5.heap.size 2 .i64 ad' cap' ((Z.take ts).map (·.s) ++ [z])) (hk : Kp (ob sa sc) w w2) (hob : ∀ b ∈ ob ad' cap', b ∈ ob sa sc ∨ w.heap.size ≤ b) :
    MgI w5 b5 ia k ic cnt Z (ts + 1) tl tg ad' cap' la lc ga gc (w2.setCell ⟨b5, 2, none⟩ (.slice ad' (ts + 1) cap')) := by
  have hr := hk.get h.row (ownI_ne h.os h.row (by decide))
  have hl := h.ol.keep hk (fun b hb hb2 => h.d1 b hb2 hb)
  have hg := h.og.keep hk (fun b hb hb2 => h.d2 b hb2 hb)
  have kz : Kp [b5] w2 (w2.setCell ⟨b5, 2, none⟩ (.slice ad' (ts + 1) cap')) := (Kp.refl [b5] w2).setCell _ _ (by simp)
  have hx : ∀ {ad : Option Addr} {cap : Nat} {l : List Int}, Own w2 w5.heap.size 2 .i64 ad cap l → Own (w2.setCell ⟨b5, 2, none⟩ (.slice ad' (ts + 1) cap')) w5.heap.size 2 .i64 ad cap l := fun ho => ho.keep kz (fun b hb hb2 => by simp at hb2; subst hb2; exact ownI_ne ho hr (by decide) hb)
  exact ⟨by rw [heap_setCell_same w2 b5 2 _ _ _ hr]; rfl, by rw [hz]; exact hx ho, hx hl, hx hg, fun b hb hb2 => (hob b hb).elim (fun h1 => h.d1 b h1 hb2) (fun h1 => by have := (h.ol.ob_ge b hb2).2; omega), fun b hb hb2 => (hob b hb).elim (fun h1 => h.d2 b h1 hb2) (fun h1 => by have := (h.og.ob_ge b hb2).2; omega), h.d3,
    (h.kp.trans hk (U := [b5]) (fun _ h => .inl h) (fun b hb => .inr (h.os.ob_ge b hb).1)).trans kz (fun _ h => .inl h) (fun _ h => .inl h)⟩
theorem MgI.setL (h : MgI w5 b5 ia k ic cnt Z ts tl tg sa sc la lc ga gc w) {ad' : Option Addr} {cap' : Nat} {z : Int} (hz : (Z.take (tl + 1)).map (·.l) = (Z.take tl).map (·.l) ++ [z]) (ho : Own w2 w5.heap.size 2 .i64 ad' cap' ((Z.take tl).map (·.l) ++ [z])) (hk : Kp (ob la lc) w w2) (hob : ∀ b ∈ ob ad' cap', b ∈ ob la lc ∨ w.heap.size ≤ b) :
    MgI w5 b5 ia k ic cnt Z ts (tl + 1) tg sa sc ad' cap' ga gc (w2.setCell ⟨b5, 3, none⟩ (.slice ad' (tl + 1) cap')) := by
  have hr := hk.get h.row (ownI_ne h.ol h.row (by decide))
  have hl := h.os.keep hk (fun b hb hb2 => h.d1 b hb hb2)
  have hg := h.og.keep hk (fun b hb hb2 => h.d3 b hb2 hb)
  have kz : Kp [b5] w2 (w2.setCell ⟨b5, 3, none⟩ (.slice ad' (tl + 1) cap')) := (Kp.refl [b5] w2).setCell _ _ (by simp)
  have hx : ∀ {ad : Option Addr} {cap : Nat} {l : List Int}, Own w2 w5.heap.size 2 .i64 ad cap l → Own (w2.setCell ⟨b5, 3, none⟩ (.slice ad' (tl + 1) cap')) w5.heap.size 2 .i64 ad cap l := fun ho => ho.keep kz (fun b hb hb2 => by simp at hb2; subst hb2; exact ownI_ne ho hr (by decide) hb)
  exact ⟨by rw [heap_setCell_same w2 b5 3 _ _ _ hr]; rfl, hx hl, by rw [hz]; exact hx ho, hx hg, fun b hb hb2 => (hob b hb2).elim (fun h1 => h.d1 b hb h1) (fun h1 => by have := (h.os.ob_ge b hb).2; omega), h.d2, fun b hb hb2 => (hob b hb).elim (fun h1 => h.d3 b h1 hb2) (fun h1 => by have := (h.og.ob_ge b hb2).2; omega),
    (h.kp.trans hk (U := [b5]) (fun _ h => .inl h) (fun b hb => .inr (h.ol.ob_ge b hb).1)).trans kz (fun _ h => .inl h) (fun _ h => .inl h)⟩
theorem MgI.setG (h : MgI w5 b5 ia k ic cnt Z ts tl tg sa sc la lc ga gc w) {ad' : Option Addr} {cap' : Nat} {z : Int} (hz : (Z.take (tg + 1)).map (·.g) = (Z.take tg).map (·.g) ++ [z]) (ho : Own w2 w5.heap.size 2 .i64 ad' cap' ((Z.take tg).map (·.g) ++ [z])) (hk : Kp (ob ga gc) w w2) (hob : ∀ b ∈ ob ad' cap', b ∈ ob ga gc ∨ w.heap.size ≤ b) :
    MgI w5 b5 ia k ic cnt Z ts tl (tg + 1) sa sc la lc ad' cap' (w2.setCell ⟨b5, 4, none⟩ (.slice ad' (tg + 1) cap')) := by
  have hr := hk.get h.row (ownI_ne h.og h.row (by decide))
  have hl := h.os.keep hk (fun b hb hb2 => h.d2 b hb hb2)
  have hg := h.ol.keep hk (fun b hb hb2 => h.d3 b hb hb2)
  have kz : Kp [b5] w2 (w2.setCell ⟨b5, 4, none⟩ (.slice ad' (tg + 1) cap')) := (Kp.refl [b5] w2).setCell _ _ (by simp)
  have hx : ∀ {ad : Option Addr} {cap : Nat} {l : List Int}, Own w2 w5.heap.size 2 .i64 ad cap l → Own (w2.setCell ⟨b5, 4, none⟩ (.slice ad' (tg + 1) cap')) w5.heap.size 2 .i64 ad cap l := fun ho => ho.keep kz (fun b hb hb2 => by simp at hb2; subst hb2; exact ownI_ne ho hr (by decide) hb)
  exact ⟨by rw [heap_setCell_same w2 b5 4 _ _ _ hr]; rfl, hx hl, hx hg, by rw [hz]; exact hx ho, h.d1, fun b hb hb2 => (hob b hb2).elim (fun h1 => h.d2 b hb h1) (fun h1 => by have := (h.os.ob_ge b hb).2; omega), fun b hb hb2 => (hob b hb2).elim (fun h1 => h.d3 b hb h1) (fun h1 => by have := (h.ol.ob_ge b hb).2; omega),
    (h.kp.trans hk (U := [b5]) (fun _ h => .inl h) (fun b hb => .inr (h.og.ob_ge b hb).1)).trans kz (fun _ h => .inl h) (fun _ h => .inl h)⟩
theorem MgI.addL {w1 : World} (h : MgI w5 b5 ia k ic cnt Z ts tl tg sa sc la lc ga gc w) {ad' : Option Addr} {cap' : Nat} {z : Int} (hz : (Z.take (tl + 1)).map (·.l) = (Z.take tl).map (·.l) ++ [z]) (hk : Kp (ob la lc) w1 w2) (h0 : Kp [] w w1) (ho : Own w2 w5.heap.size 2 .i64 ad' cap' ((Z.take tl).map (·.l) ++ [z])) (hob : ∀ b ∈ ob ad' cap', b ∈ ob la lc ∨ w1.heap.size ≤ b) :
    w2.cell? ⟨b5, 3, none⟩ = some (.slice la tl lc) ∧ w2.frozen? ⟨b5, 3, none⟩ = false ∧ MgI w5 b5 ia k ic cnt Z ts (tl + 1) tg sa sc ad' cap' ga gc (w2.setCell ⟨b5, 3, none⟩ (.slice ad' (tl + 1) cap')) := by
  have h1 := h.keep0 h0
  have hr := hk.get h1.row (ownI_ne h1.ol h1.row (by decide))
  exact ⟨arow_cell hr 3 rfl, frozen_of_row w2 b5 3 _ _ hr, h1.setL hz ho hk hob⟩
theorem MgI.addG {w1 : World} (h : MgI w5 b5 ia k ic cnt Z ts tl tg sa sc la lc ga gc w) {ad' : Option Addr} {cap' : Nat} {z : Int} (hz : (Z.take (tg + 1)).map (·.g) = (Z.take tg).map (·.g) ++ [z]) (hk : Kp (ob ga gc) w1 w2) (h0 : Kp [] w w1) (ho : Own w2 w5.heap.size 2 .i64 ad' cap' ((Z.take tg).map (·.g) ++ [z])) (hob : ∀ b ∈ ob ad' cap', b ∈ ob ga gc ∨ w1.heap.size ≤ b) :
    w2.cell? ⟨b5, 4, none⟩ = some (.slice ga tg gc) ∧ w2.frozen? ⟨b5, 4, none⟩ = false ∧ MgI w5 b5 ia k ic cnt Z ts tl (tg + 1) sa sc la lc ad' cap' (w2.setCell ⟨b5, 4, none⟩ (.slice ad' (tg + 1) cap')) := by
  have h1 := h.keep0 h0
  have hr := hk.get h1.row (ownI_ne h1.og h1.row (by decide))
  exact ⟨arow_cell hr 4 rfl, frozen_of_row w2 b5 4 _ _ hr, h1.setG hz ho hk hob⟩
end

set_option maxHeartbeats 6400000 in
theorem r19Merge_any (x y : Ra) (hl : x.ms.length = y.ms.length) (hb : x.ms.length ≤ 1000 ∧ x.ids.length ≤ 1000) (w : World) (hx : RaRd w x) (hy : RaRd w y) :
    Calls Try.prog 49 #[raV x, raV y] w fun e w' => ∃ z : Ra, e = .returned (raV z) ∧ z.pr = mrg x.pr y.pr ∧ RaOwn w' w.heap.size z ∧ Kp [] w w' := by
  obtain ⟨ids, ia, ic, cnt, ms, sa, sc, la, lc, ga, gc⟩ := x
  obtain ⟨ids2, ia2, ic2, cnt2, ms2, sa2, sc2, la2, lc2, ga2, gc2⟩ := y
  dsimp only at hl hb
  obtain ⟨k, hk⟩ : ∃ k, k = ids.length := ⟨_, rfl⟩
  obtain ⟨k2, hk2⟩ : ∃ k, k = ids2.length := ⟨_, rfl⟩
  obtain ⟨mt, hmt⟩ : ∃ mt, mt = ms.length := ⟨_, rfl⟩
  simp only [raV]
  rw [← hk, ← hk2, ← hl, ← hmt]
  have HK := Lib.hid hk
  have HMT := Lib.hid hmt
  have HMT2 : Hid (mt = ms2.length) := Lib.hid (hmt.trans hl)
  have hmtb : mt ≤ 1000 := by rw [hmt]; exact hb.1
  have hkb : k ≤ 1000 := by rw [hk]; exact hb.2
  have HX := Lib.hid hx
  have HY := Lib.hid hy
  have hc1 : mt ≤ sc ∧ mt ≤ lc ∧ mt ≤ gc ∧ sc ≤ 9223372036854775807 ∧ lc ≤ 9223372036854775807 ∧ gc ≤ 9223372036854775807 := by
    have h1 := hx.2.1; have h2 := hx.2.2.1; have h3 := hx.2.2.2
    exact ⟨by simpa [hmt] using h1.1, by simpa [hmt] using h2.1, by simpa [hmt] using h3.1, h1.2.1, h2.2.1, h3.2.1⟩
  have hc2 : mt ≤ sc2 ∧ mt ≤ lc2 ∧ mt ≤ gc2 ∧ sc2 ≤ 9223372036854775807 ∧ lc2 ≤ 9223372036854775807 ∧ gc2 ≤ 9223372036854775807 := by
    have h1 := hy.2.1; have h2 := hy.2.2.1; have h3 := hy.2.2.2
    exact ⟨by simpa [hmt, hl] using h1.1, by simpa [hmt, hl] using h2.1, by simpa [hmt, hl] using h3.1, h1.2.1, h2.2.1, h3.2.1⟩
  clear hk hk2 hmt hx hy hl hb
  go_enter Try.func49, Try.ntmps49
  go_upto_region 1 with (fail)
  obtain ⟨p, hp⟩ : ∃ p, p = w.heap.size := ⟨_, rfl⟩
  obtain ⟨p2, hp2⟩ : ∃ p2, p2 = w.heap.size + 1 := ⟨_, rfl⟩
  obtain ⟨p4, hp4⟩ : ∃ p4, p4 = w.heap.size + 1 + 1 := ⟨_, rfl⟩
  obtain ⟨w3, hw3⟩ : ∃ w3, w3 = ((w.alloc (Obj.cells #[.slice ia k ic, .int .i64 cnt, .slice sa mt sc, .slice la mt lc, .slice ga mt gc] 34)).alloc (Obj.cells #[.slice ia2 k2 ic2, .int .i64 cnt2, .slice sa2 mt sc2, .slice la2 mt lc2, .slice ga2 mt gc2] 34)).alloc (Obj.cells #[.slice none 0 0, .int .i64 0, .slice none 0 0, .slice none 0 0, .slice none 0 0] 34) := ⟨_, rfl⟩
  rw [← hw3, ← hp4, ← hp2, ← hp]
  have k3 : Kp [] w w3 := by rw [hw3]; exact (((Kp.refl [] w).alloc _).alloc _).alloc _
  have r1 : w3.heap[p]? = some (.cells #[.slice ia k ic, .int .i64 cnt, .slice sa mt sc, .slice la mt lc, .slice ga mt gc] 34) := by rw [hw3]; exact cells_alloc (cells_alloc (heap_alloc_at hp))
  have r2 : w3.heap[p2]? = some (.cells #[.slice ia2 k2 ic2, .int .i64 cnt2, .slice sa2 mt sc2, .slice la2 mt lc2, .slice ga2 mt gc2] 34) := by rw [hw3]; exact cells_alloc (heap_alloc_at (by simp [hp2]))
  have r4 : w3.heap[p4]? = some (.cells #[.slice none 0 0, .int .i64 0, .slice none 0 0, .slice none 0 0, .slice none 0 0] 34) := by rw [hw3]; exact heap_alloc_at (by simp [hp4])
  have R1 := Lib.hid r1
  have R2 := Lib.hid r2
  have R4 := Lib.hid r4
  have K3 := Lib.hid k3
  have HPS : Hid (w.heap.size ≤ p4 ∧ p < w3.heap.size ∧ p2 < w3.heap.size ∧ p4 < w3.heap.size) := Lib.hid ⟨by omega, lt_of_heap r1, lt_of_heap r2, lt_of_heap r4⟩
  obtain ⟨cs, hcs⟩ : ∃ cs, cs = IntKind.i64.wrap (cnt + cnt2) := ⟨_, rfl⟩
  have HCS : Hid (IntKind.i64.wrap (cnt + cnt2) = cs ∧ wrap64 (cnt + cnt2) = cs) := Lib.hid ⟨hcs.symm, by rw [hcs, IntKind.wrap_i64]; unfold wrap64; rfl⟩
  have hS0 : ∀ y ∈ ([] : List Nat), y < w3.heap.size := by simp
  clear hw3 hp hp2 hp4 r1 r2 r4 k3 hcs
  refine wp_region_GS (by kernel_rfl) [] [.bare, .val (.pointer (some ⟨p, 0, none⟩)), .val (.slice ia k ic), .own w3.heap.size hS0 3 .i64 k ids, .val (.pointer (some ⟨p, 1, none⟩)), .val (.int .i64 cnt), .val (.pointer (some ⟨p2, 1, none⟩)), .val (.int .i64 cnt2), .val (.int .i64 cs), .ra0 w3.heap.size hS0 k ids cs, .var w3.heap.size hS0 #[.slice none 0 0, .int .i64 0, .slice none 0 0, .slice none 0 0, .slice none 0 0] 34] [[], [(2, none)], [(10, some 1)], [(9, some 0), (11, some 2)], [(2, none)], [(13, some 4)], [(3, none)], [(15, some 6)], [(14, some 5), (16, some 7)], [(12, some 3), (17, some 8)], []] [] (fun _ _ => True) 11 rfl (by kernel_rfl) (by kernel_rfl) (by kernel_rfl) (by kernel_rfl) (by kernel_rfl) (by simp) (fun _ _ _ h _ => h) trivial ?_ ?_
  · refine (ObG.free rfl ?o0 (ObG.free rfl ?o1 (ObG.free rfl ?o2 (ObG.free rfl ?o3 (ObG.free rfl ?o4 (ObG.free rfl ?o5 (ObG.free rfl ?o6 (ObG.free rfl ?o7 (ObG.free rfl ?o8 (ObG.free rfl ?o9 (ObG.free rfl ?o10 trivial)))))))))))
    case o0 => intro aR wR mR hR hI; replace hR := hR.undrew; skip; exact exec_do (c := .slice (some ⟨wR.heap.size, 0, none⟩) 0 0) (w' := wR.alloc (.cells #[] 3)) (wanted_none rfl) (by go_simp) ⟨_, rfl⟩ ((Kp.refl [] _).alloc _)
    case o1 => intro aR wR mR hR hI; replace hR := hR.undrew; intro (h2 : aR.tmps[2]? = some (.pointer (some ⟨p, 0, none⟩))); exact exec_val (c := .pointer (some ⟨p, 0, none⟩)) (wanted_none rfl) (by go_simp) rfl
    case o2 => intro aR wR mR hR hI; replace hR := hR.undrew; intro v10 h10 e10; replace e10 : v10 = .pointer (some ⟨p, 0, none⟩) := e10; subst e10; (have h1 := arow_cell (hR.get R1.out (by simp)) 0 rfl); exact exec_val (c := .slice ia k ic) (wanted_none rfl) (by go_simp) rfl
    case o3 => intro aR wR mR hR hI; replace hR := hR.undrew; intro v9 h9 e9; intro v11 h11 e11; replace e11 : v11 = .slice ia k ic := e11; subst e11; obtain ⟨a9, rfl⟩ := e9; refine exec_app (wanted_none rfl) (.tmp 9) (.tmp 11) 23 23 rfl w3.heap.size 3 .i64 8 Try.underlying23 infoInt a9 ids _ k HK.out (by go_simp) (by go_simp; rfl) (by have := src_rd (HX.out.1.keep0 (K3.out.tr hR)) Try.underlying23; rw [← HK.out] at this; exact this) (by omega) (by omega) hR.size ?_; intro ad3 cap3 w4 ho3; exact ⟨ad3, cap3, rfl, ho3⟩
    case o4 => intro aR wR mR hR hI; replace hR := hR.undrew; intro (h2 : aR.tmps[2]? = some (.pointer (some ⟨p, 0, none⟩))); exact exec_val (c := .pointer (some ⟨p, 1, none⟩)) (wanted_none rfl) (by go_simp) rfl
    case o5 => intro aR wR mR hR hI; replace hR := hR.undrew; intro v13 h13 e13; replace e13 : v13 = .pointer (some ⟨p, 1, none⟩) := e13; subst e13; (have h1 := arow_cell (hR.get R1.out (by simp)) 1 rfl); exact exec_val (c := .int .i64 cnt) (wanted_none rfl) (by go_simp) rfl
    case o6 => intro aR wR mR hR hI; replace hR := hR.undrew; intro (h3 : aR.tmps[3]? = some (.pointer (some ⟨p2, 0, none⟩))); exact exec_val (c := .pointer (some ⟨p2, 1, none⟩)) (wanted_none rfl) (by go_simp) rfl
    case o7 => intro aR wR mR hR hI; replace hR := hR.undrew; intro v15 h15 e15; replace e15 : v15 = .pointer (some ⟨p2, 1, none⟩) := e15; subst e15; (have h1 := arow_cell (hR.get R2.out (by simp)) 1 rfl); exact exec_val (c := .int .i64 cnt2) (wanted_none rfl) (by go_simp) rfl
    case o8 => intro aR wR mR hR hI; replace hR := hR.undrew; intro v14 h14 e14; replace e14 : v14 = .int .i64 cnt := e14; subst e14; intro v16 h16 e16; replace e16 : v16 = .int .i64 cnt2 := e16; subst e16; (have h1 := HCS.out.1; have h2 := HCS.out.2); exact exec_val (c := .int .i64 cs) (wanted_none rfl) (by go_simp) rfl
    case o9 => intro aR wR mR hR hI; replace hR := hR.undrew; intro v12 h12 e12; intro v17 h17 e17; replace e17 : v17 = .int .i64 cs := e17; subst e17; obtain ⟨ad, cap, rfl, ho⟩ := e12; exact exec_val (c := .agg #[.slice ad k cap, .int .i64 cs, .slice none 0 0, .slice none 0 0, .slice none 0 0]) (wanted_none rfl) (by go_simp) ⟨ad, cap, rfl, ho⟩
    case o10 => intro aR wR mR hR hI; replace hR := hR.undrew; skip; exact exec_do (c := .pointer (some ⟨wR.heap.size, 0, none⟩)) (w' := wR.alloc (.cells #[.slice none 0 0, .int .i64 0, .slice none 0 0, .slice none 0 0, .slice none 0 0] 34)) (wanted_none rfl) (by go_simp) ⟨_, rfl, hR.size, heap_alloc_at rfl⟩ ((Kp.refl [] _).alloc _)
  · intro vs wR hR hI hV
    obtain ⟨e0, e1, e2, e3, e4, e5, e6, e7, e8, e9, e10, -⟩ := hV
    replace e1 : vs 1 = .pointer (some ⟨p, 0, none⟩) := e1
    replace e2 : vs 2 = .slice ia k ic := e2
    replace e4 : vs 4 = .pointer (some ⟨p, 1, none⟩) := e4
    replace e5 : vs 5 = .int .i64 cnt := e5
    replace e6 : vs 6 = .pointer (some ⟨p2, 1, none⟩) := e6
    replace e7 : vs 7 = .int .i64 cnt2 := e7
    replace e8 : vs 8 = .int .i64 cs := e8
    simp only [putAll, List.take_succ_cons, List.take_zero, List.drop_succ_cons, List.drop_zero, e1, e2, e4, e5, e6, e7, e8, Nat.reduceAdd, Nat.zero_add]
    clear e1 e2 e4 e5 e6 e7 e8
    try simp only [List.setIfInBounds_toArray, List.set_cons_succ, List.set_cons_zero]
    simp only [Nat.reduceAdd, Nat.zero_add] at e3 e9 e10
    obtain ⟨ia1, ic1, hv9, ho9⟩ := e9
    obtain ⟨b5, hv10, hb5, h5⟩ := e10
    rw [hv9, hv10]
    have g5 := setRow_heap wR b5 _ #[.slice ia1 k ic1, .int .i64 cs, .slice none 0 0, .slice none 0 0, .slice none 0 0] _ _ h5
    refine wpList_store_row rfl 34 (.tmp 5) (.tmp 18) rfl b5 #[.slice ia1 k ic1, .int .i64 cs, .slice none 0 0, .slice none 0 0, .slice none 0 0] rfl rfl 34 _ h5 (by kernel_rfl) rfl (by simp [Value.oneCell']) ?_
    simp only [Act.put]
    refine wpList_nil ?_
    obtain ⟨w5, hw5⟩ : ∃ w5, w5 = wR.setRow b5 #[.slice ia1 k ic1, .int .i64 cs, .slice none 0 0, .slice none 0 0, .slice none 0 0] := ⟨_, rfl⟩
    rw [← hw5] at g5 ⊢
    have k35 : Kp [] w3 w5 := by rw [hw5]; exact hR.setRowF _ _ (.inr hb5)
    have hia5 : Own w5 w3.heap.size 3 .i64 ia1 ic1 ids := by
      rw [hw5]; exact ho9.keep ((Kp.refl [b5] wR).setRowF _ _ (.inl (by simp))) (fun b hb hb2 => by simp at hb2; subst hb2; exact ownI_ne ho9 h5 (by decide) hb)
    have HIA := Lib.hid hia5
    have G5 := Lib.hid g5
    have K35 := Lib.hid k35
    have HB5 : Hid (b5 ≠ p ∧ b5 ≠ p2 ∧ b5 ≠ p4 ∧ w3.heap.size ≤ b5) := Lib.hid (by have := HPS.out; omega)
    obtain ⟨Z, hZ⟩ : ∃ Z, Z = List.zipWith mrg1 ms ms2 := ⟨_, rfl⟩
    have HZ := Lib.hid hZ
    have HZL : Hid (Z.length = mt) := Lib.hid (by rw [hZ, List.length_zipWith, ← HMT.out, ← HMT2.out, Nat.min_self])
    have HRX : Hid (∀ W, Kp [b5] w5 W → RaRd W ⟨ids, ia, ic, cnt, ms, sa, sc, la, lc, ga, gc⟩ ∧ RaRd W ⟨ids2, ia2, ic2, cnt2, ms2, sa2, sc2, la2, lc2, ga2, gc2⟩) := Lib.hid (fun W hW => by
      have h1 : Kp [] w W := (K3.out.tr k35).trans hW (by simp) (fun b hb => .inr (by simp at hb; subst hb; have := HB5.out.2.2.2; have := K3.out.size; omega))
      exact ⟨HX.out.keep0 h1, HY.out.keep0 h1⟩)
    have HRR : Hid (∀ W, Kp [b5] w5 W → W.heap[p]? = some (.cells #[.slice ia k ic, .int .i64 cnt, .slice sa mt sc, .slice la mt lc, .slice ga mt gc] 34) ∧ W.heap[p2]? = some (.cells #[.slice ia2 k2 ic2, .int .i64 cnt2, .slice sa2 mt sc2, .slice la2 mt lc2, .slice ga2 mt gc2] 34) ∧ W.heap[p4]? = some (.cells #[.slice none 0 0, .int .i64 0, .slice none 0 0, .slice none 0 0, .slice none 0 0] 34)) := Lib.hid (fun W hW =>
      ⟨hW.get (k35.get R1.out (by simp)) (by simp; exact fun e => HB5.out.1 e.symm), hW.get (k35.get R2.out (by simp)) (by simp; exact fun e => HB5.out.2.1 e.symm), hW.get (k35.get R4.out (by simp)) (by simp; exact fun e => HB5.out.2.2.1 e.symm)⟩)
    generalize vs 0 = v0
    generalize vs 3 = v3
    clear hw5 k35 hia5 ho9 h5 g5 hv9 hv10 hb5 hR hI e3 hZ HX HY R1 R2 R4
    clear e0
    go_wp2_with fail
    go_loopw [6] (fun vi wr => ∃ (t : Nat) (qa : Option Addr) (qc : Nat) (ra : Option Addr) (rc : Nat) (ua : Option Addr) (uc : Nat), t ≤ mt ∧ vi = .int .i64 t ∧ Hid (MgI w5 b5 ia1 k ic1 cs Z t t t qa qc ra rc ua uc wr)) (fun vi _ => mt - (intOf vi).toNat)
    case atStart => exact ⟨0, none, 0, none, 0, none, 0, Nat.zero_le _, rfl, Lib.hid ⟨G5.out, Own.nil _ _ _ _, Own.nil _ _ _ _, Own.nil _ _ _ _, by simp [ob], by simp [ob], by simp [ob], Kp.refl _ _⟩⟩
    case round =>
      obtain ⟨t, qa, qc, ra, rc, ua, uc, ht, rfl, HI⟩ := hrel
      obtain ⟨wt, rfl⟩ : ∃ wt : World, wt = wr := ⟨_, rfl⟩
      have hcb : qc ≤ 9223372036854775807 ∧ rc ≤ 9223372036854775807 ∧ uc ≤ 9223372036854775807 := ⟨HI.out.os.rd.2.1, HI.out.ol.rd.2.1, HI.out.og.rd.2.1⟩
      have cp2 := arow_cell (HRR.out wt HI.out.kp).1 2 rfl
      by_cases hlt : t < mt
      · have hx1 : t < ms.length := by rw [← HMT.out]; exact hlt
        have hy1 : t < ms2.length := by rw [← HMT2.out]; exact hlt
        have hrx := fun W hW => HRX.out W hW
        obtain ⟨b1, o1, rfl, d1⟩ := (hrx wt HI.out.kp).1.2.1.2.2 t (by rw [List.length_map]; exact hx1)
        obtain ⟨b2, o2, rfl, d2⟩ := (hrx wt HI.out.kp).2.2.1.2.2 t (by rw [List.length_map]; exact hy1)
        obtain ⟨b3, o3, rfl, d3⟩ := (hrx wt HI.out.kp).1.2.2.1.2.2 t (by rw [List.length_map]; exact hx1)
        obtain ⟨b4, o4, rfl, d4⟩ := (hrx wt HI.out.kp).2.2.2.1.2.2 t (by rw [List.length_map]; exact hy1)
        obtain ⟨b6, o6, rfl, d6⟩ := (hrx wt HI.out.kp).1.2.2.2.2.2 t (by rw [List.length_map]; exact hx1)
        obtain ⟨b7, o7, rfl, d7⟩ := (hrx wt HI.out.kp).2.2.2.2.2.2 t (by rw [List.length_map]; exact hy1)
        have e1 : nth (ms.map (·.s)) t = ms[t].s := by simp [nth, hx1]
        have e2 : nth (ms2.map (·.s)) t = ms2[t].s := by simp [nth, hy1]
        have e3 : nth (ms.map (·.l)) t = ms[t].l := by simp [nth, hx1]
        have e4 : nth (ms2.map (·.l)) t = ms2[t].l := by simp [nth, hy1]
        have e6 : nth (ms.map (·.g)) t = ms[t].g := by simp [nth, hx1]
        have e7 : nth (ms2.map (·.g)) t = ms2[t].g := by simp [nth, hy1]
        rw [e1] at d1
        rw [e2] at d2
        rw [e3] at d3
        rw [e4] at d4
        rw [e6] at d6
        rw [e7] at d7
        have HZT : Hid (Z.take (t + 1) = Z.take t ++ [mrg1 ms[t] ms2[t]]) := Lib.hid (by rw [HZ.out]; exact zipWith_step (List.getElem?_eq_getElem hx1) (List.getElem?_eq_getElem hy1))
        obtain ⟨⟨xs, xl, xg⟩, hxv⟩ : ∃ v, v = ms[t] := ⟨_, rfl⟩
        obtain ⟨⟨ys, yl, yg⟩, hyv⟩ : ∃ v, v = ms2[t] := ⟨_, rfl⟩
        rw [← hxv] at d1 d3 d6
        rw [← hyv] at d2 d4 d7
        rw [← hxv, ← hyv] at HZT
        dsimp only at d1 d2 d3 d4 d6 d7
        have HD : Hid (∀ W, Kp [] wt W → W.cell? ⟨b1, o1 + t, none⟩ = some (.int .i64 xs) ∧ W.cell? ⟨b2, o2 + t, none⟩ = some (.int .i64 ys)) := Lib.hid (fun W hW => ⟨hW.cell d1 (by simp), hW.cell d2 (by simp)⟩)
        have D1 := Lib.hid d1
        have D2 := Lib.hid d2
        have HLTW : Hid (b1 < wt.heap.size) := Lib.hid (World.block_lt_of_cell? wt _ d1)
        have HX3 : Hid (∀ W, Kp [b5] w5 W → W.cell? ⟨b3, o3 + t, none⟩ = some (.int .i64 xl) ∧ W.cell? ⟨b4, o4 + t, none⟩ = some (.int .i64 yl) ∧ W.cell? ⟨b6, o6 + t, none⟩ = some (.int .i64 xg) ∧ W.cell? ⟨b7, o7 + t, none⟩ = some (.int .i64 yg) ∧ W.cell? ⟨b1, o1 + t, none⟩ = some (.int .i64 xs) ∧ W.cell? ⟨b2, o2 + t, none⟩ = some (.int .i64 ys)) := Lib.hid (fun W hW => by
          have h1 := hrx W hW
          have g3 := h1.1.2.2.1.2.2 t (by rw [List.length_map]; exact hx1)
          have g4 := h1.2.2.2.1.2.2 t (by rw [List.length_map]; exact hy1)
          have g6 := h1.1.2.2.2.2.2 t (by rw [List.length_map]; exact hx1)
          have g7 := h1.2.2.2.2.2.2 t (by rw [List.length_map]; exact hy1)
          have g1 := h1.1.2.1.2.2 t (by rw [List.length_map]; exact hx1)
          have g2 := h1.2.2.1.2.2 t (by rw [List.length_map]; exact hy1)
          dsimp only at g1 g2 g3 g4 g6 g7
          rw [e3, ← hxv] at g3
          rw [e4, ← hyv] at g4
          rw [e6, ← hxv] at g6
          rw [e7, ← hyv] at g7
          rw [e1, ← hxv] at g1
          rw [e2, ← hyv] at g2
          obtain ⟨_, _, q3, g3⟩ := g3
          obtain ⟨_, _, q4, g4⟩ := g4
          obtain ⟨_, _, q6, g6⟩ := g6
          obtain ⟨_, _, q7, g7⟩ := g7
          obtain ⟨_, _, q1, g1⟩ := g1
          obtain ⟨_, _, q2, g2⟩ := g2
          cases q1; cases q2; cases q3; cases q4; cases q6; cases q7
          exact ⟨g3, g4, g6, g7, g1, g2⟩)
        obtain ⟨Zs, hZs⟩ : ∃ l, l = (Z.take t).map (·.s) := ⟨_, rfl⟩
        obtain ⟨z, hz⟩ : ∃ z, z = IntKind.i64.wrap (xs + ys) := ⟨_, rfl⟩
        have HZV : Hid (IntKind.i64.wrap (xs + ys) = z ∧ wrap64 (xs + ys) = z) := Lib.hid ⟨hz.symm, by rw [hz, IntKind.wrap_i64]; unfold wrap64; rfl⟩
        have HZ1 : Hid ((Z.take (t + 1)).map (·.s) = (Z.take t).map (·.s) ++ [z]) := Lib.hid (by rw [HZT.out, List.map_append, hz]; rfl)
        have HZ2 : Hid ((Z.take (t + 1)).map (·.l) = (Z.take t).map (·.l) ++ [min xl yl]) := Lib.hid (by rw [HZT.out, List.map_append]; rfl)
        have HZ3 : Hid ((Z.take (t + 1)).map (·.g) = (Z.take t).map (·.g) ++ [max xg yg]) := Lib.hid (by rw [HZT.out, List.map_append]; rfl)
        have HZN : Hid (t = Zs.length) := Lib.hid (by rw [hZs, List.length_map, List.length_take, HZL.out]; omega)
        have HOS : Hid (Own wt w5.heap.size 2 .i64 qa qc Zs) := Lib.hid (by rw [hZs]; exact HI.out.os)
        have HZS := Lib.hid hZs
        have HROW := Lib.hid HI.out.row
        have HRP := Lib.hid (HRR.out wt HI.out.kp)
        have HLT : ∀ y ∈ ob qa qc, y < wt.heap.size := fun y hy => (HOS.out.ob_ge y hy).2
        have HNS : Hid (b5 ∉ ob qa qc ∧ p ∉ ob qa qc ∧ p2 ∉ ob qa qc) := Lib.hid ⟨ownI_ne HOS.out HROW.out (by decide), ownI_ne HOS.out HRP.out.1 (by decide), ownI_ne HOS.out HRP.out.2.1 (by decide)⟩
        have HKD : Hid (∀ W, Kp (ob qa qc) wt W → Kp [b5] w5 W) := Lib.hid (fun W hW => HI.out.kp.trans hW (U := [b5]) (fun _ h => .inl h) (fun b hb => .inr (HI.out.os.ob_ge b hb).1))
        clear hx1 hy1 hrx e1 e2 e3 e4 e6 e7 hxv hyv d1 d2 d3 d4 d6 d7 hZs hz D1 D2 HD
        go_upto_region 5 with (fail)
        clear cp2
        refine wp_region_GS (by kernel_rfl) (ob qa qc) [.val (.pointer (some ⟨b5, 2, none⟩)), .val (.slice qa t qc), .val (.pointer (some ⟨p, 2, none⟩)), .val (.slice (some ⟨b1, o1, none⟩) mt sc), .val (.int .i64 (t : Int)), .val (.pointer (some ⟨b1, o1 + t, none⟩)), .val (.int .i64 xs), .val (.pointer (some ⟨p2, 2, none⟩)), .val (.slice (some ⟨b2, o2, none⟩) mt sc2), .val (.int .i64 (t : Int)), .val (.pointer (some ⟨b2, o2 + t, none⟩)), .val (.int .i64 ys), .val (.int .i64 z), .own wt.heap.size HLT 2 .i64 1 [z], .app wt.heap.size HLT 2 .i64 qa qc (t + 1) (Zs ++ [z]), .val (.pointer (some ⟨b5, 2, none⟩))] [[(5, none)], [(26, some 0)], [(2, none)], [(28, some 2)], [(6, none)], [(29, some 3), (30, some 4)], [(31, some 5)], [(3, none)], [(33, some 7)], [(6, none)], [(34, some 8), (35, some 9)], [(36, some 10)], [(32, some 6), (37, some 11)], [(38, some 12)], [(27, some 1), (39, some 13)], [(5, none)]] [14] (fun m wx => AppI w5.heap.size 2 .i64 qa qc (t + 1) Zs z (decide (0 < m)) wx) 16 rfl (by kernel_rfl) (by kernel_rfl) (by kernel_rfl) (by kernel_rfl) (by kernel_rfl) (by simp) (fun _ _ _ h k => AppI.keep h k (by simp)) (AppI.of HOS.out) ?_ ?_
        · refine (ObG.free rfl ?o0 (ObG.free rfl ?o1 (ObG.free rfl ?o2 (ObG.free rfl ?o3 (ObG.free rfl ?o4 (ObG.free rfl ?o5 (ObG.free rfl ?o6 (ObG.free rfl ?o7 (ObG.free rfl ?o8 (ObG.free rfl ?o9 (ObG.free rfl ?o10 (ObG.free rfl ?o11 (ObG.free rfl ?o12 (ObG.free rfl ?o13 (ObG.chain 0 rfl ?o14 (ObG.free rfl ?o15 trivial))))))))))))))))
          case o0 => intro aR wR mR hR hI; replace hR := hR.undrew; intro (h5 : aR.tmps[5]? = some (.pointer (some ⟨b5, 0, none⟩))); exact exec_val (c := .pointer (some ⟨b5, 2, none⟩)) (wanted_none rfl) (by go_simp) rfl
          case o1 => intro aR wR mR hR hI; replace hR := hR.undrew; intro v26 h26 e26; replace e26 : v26 = .pointer (some ⟨b5, 2, none⟩) := e26; subst e26; (have h1 := arow_cell (hR.get HROW.out HNS.out.1) 2 rfl); exact exec_val (c := .slice qa t qc) (wanted_none rfl) (by go_simp) rfl
          case o2 => intro aR wR mR hR hI; replace hR := hR.undrew; intro (h2 : aR.tmps[2]? = some (.pointer (some ⟨p, 0, none⟩))); exact exec_val (c := .pointer (some ⟨p, 2, none⟩)) (wanted_none rfl) (by go_simp) rfl
          case o3 => intro aR wR mR hR hI; replace hR := hR.undrew; intro v28 h28 e28; replace e28 : v28 = .pointer (some ⟨p, 2, none⟩) := e28; subst e28; (have h1 := arow_cell (hR.get HRP.out.1 HNS.out.2.1) 2 rfl); exact exec_val (c := .slice (some ⟨b1, o1, none⟩) mt sc) (wanted_none rfl) (by go_simp) rfl
          case o4 => intro aR wR mR hR hI; replace hR := hR.undrew; intro (h6 : aR.tmps[6]? = some (.int .i64 (t : Int))); exact exec_val (c := .int .i64 (t : Int)) (wanted_none rfl) (by go_simp) rfl
          case o5 => intro aR wR mR hR hI; replace hR := hR.undrew; intro v29 h29 e29; replace e29 : v29 = .slice (some ⟨b1, o1, none⟩) mt sc := e29; subst e29; intro v30 h30 e30; replace e30 : v30 = .int .i64 (t : Int) := e30; subst e30; exact exec_val (c := .pointer (some ⟨b1, o1 + t, none⟩)) (wanted_none rfl) (by go_simp) rfl
          case o6 => intro aR wR mR hR hI; replace hR := hR.undrew; intro v31 h31 e31; replace e31 : v31 = .pointer (some ⟨b1, o1 + t, none⟩) := e31; subst e31; (have h1 := (HX3.out wR (HKD.out wR hR)).2.2.2.2.1); exact exec_val (c := .int .i64 xs) (wanted_none rfl) (by go_simp) rfl
          case o7 => intro aR wR mR hR hI; replace hR := hR.undrew; intro (h3 : aR.tmps[3]? = some (.pointer (some ⟨p2, 0, none⟩))); exact exec_val (c := .pointer (some ⟨p2, 2, none⟩)) (wanted_none rfl) (by go_simp) rfl
          case o8 => intro aR wR mR hR hI; replace hR := hR.undrew; intro v33 h33 e33; replace e33 : v33 = .pointer (some ⟨p2, 2, none⟩) := e33; subst e33; (have h1 := arow_cell (hR.get HRP.out.2.1 HNS.out.2.2) 2 rfl); exact exec_val (c := .slice (some ⟨b2, o2, none⟩) mt sc2) (wanted_none rfl) (by go_simp) rfl
          case o9 => intro aR wR mR hR hI; replace hR := hR.undrew; intro (h6 : aR.tmps[6]? = some (.int .i64 (t : Int))); exact exec_val (c := .int .i64 (t : Int)) (wanted_none rfl) (by go_simp) rfl
          case o10 => intro aR wR mR hR hI; replace hR := hR.undrew; intro v34 h34 e34; replace e34 : v34 = .slice (some ⟨b2, o2, none⟩) mt sc2 := e34; subst e34; intro v35 h35 e35; replace e35 : v35 = .int .i64 (t : Int) := e35; subst e35; exact exec_val (c := .pointer (some ⟨b2, o2 + t, none⟩)) (wanted_none rfl) (by go_simp) rfl
          case o11 => intro aR wR mR hR hI; replace hR := hR.undrew; intro v36 h36 e36; replace e36 : v36 = .pointer (some ⟨b2, o2 + t, none⟩) := e36; subst e36; (have h1 := (HX3.out wR (HKD.out wR hR)).2.2.2.2.2); exact exec_val (c := .int .i64 ys) (wanted_none rfl) (by go_simp) rfl
          case o12 => intro aR wR mR hR hI; replace hR := hR.undrew; intro v32 h32 e32; replace e32 : v32 = .int .i64 xs := e32; subst e32; intro v37 h37 e37; replace e37 : v37 = .int .i64 ys := e37; subst e37; (have h1 := HZV.out.1; have h2 := HZV.out.2); exact exec_val (c := .int .i64 z) (wanted_none rfl) (by go_simp) rfl
          case o13 => intro aR wR mR hR hI; replace hR := hR.undrew; intro v38 h38 e38; replace e38 : v38 = .int .i64 z := e38; subst e38; exact exec_do (c := .slice (some ⟨wR.heap.size, 0, none⟩) 1 1) (w' := wR.alloc (.cells #[.int .i64 z] 2)) (wanted_none rfl) (by go_simp) ⟨_, 1, rfl, own_one1 hR.size (heap_alloc_at rfl)⟩ ((Kp.refl [] _).alloc _)
          case o14 => intro aR wR hR hI; replace hR := hR.undrew; intro v27 h27 e27; replace e27 : v27 = .slice qa t qc := e27; subst e27; intro v39 h39 e39; obtain ⟨ad9, cap9, rfl, ho9⟩ := e39; exact exec_app_or (wanted_none rfl) (.tmp 27) (.tmp 39) 32 32 rfl w5.heap.size 8 Try.underlying32 infoI64 qa qc t Zs HZN.out [z] (.slice ad9 1 cap9) 1 rfl (by go_simp) (by go_simp) (AppI.off hI) (src_rd ho9.rd Try.underlying32) (by omega) (by omega) (fun w' hr g1 g2 => ⟨.inl ⟨hr, rfl⟩, g2, AppI.room hr g1⟩) (fun ad' cap' w' hc g1 g2 => ⟨.inr ⟨ad', cap', hc, rfl, g1.mono hR.size⟩, g2.wide (by simp), AppI.grow hc ((AppI.off hI).keep0 g2)⟩)
          case o15 => intro aR wR mR hR hI; replace hR := hR.undrew; intro (h5 : aR.tmps[5]? = some (.pointer (some ⟨b5, 0, none⟩))); exact exec_val (c := .pointer (some ⟨b5, 2, none⟩)) (wanted_none rfl) (by go_simp) rfl
        · intro vs wR hR hI hV
          obtain ⟨e0, e1, e2, e3, e4, e5, e6, e7, e8, e9, e10, e11, e12, e13, e14, e15, -⟩ := hV
          replace e0 : vs 0 = .pointer (some ⟨b5, 2, none⟩) := e0
          replace e1 : vs 1 = .slice qa t qc := e1
          replace e2 : vs 2 = .pointer (some ⟨p, 2, none⟩) := e2
          replace e3 : vs 3 = .slice (some ⟨b1, o1, none⟩) mt sc := e3
          replace e4 : vs 4 = .int .i64 (t : Int) := e4
          replace e5 : vs 5 = .pointer (some ⟨b1, o1 + t, none⟩) := e5
          replace e6 : vs 6 = .int .i64 xs := e6
          replace e7 : vs 7 = .pointer (some ⟨p2, 2, none⟩) := e7
          replace e8 : vs 8 = .slice (some ⟨b2, o2, none⟩) mt sc2 := e8
          replace e9 : vs 9 = .int .i64 (t : Int) := e9
          replace e10 : vs 10 = .pointer (some ⟨b2, o2 + t, none⟩) := e10
          replace e11 : vs 11 = .int .i64 ys := e11
          replace e12 : vs 12 = .int .i64 z := e12
          replace e15 : vs 15 = .pointer (some ⟨b5, 2, none⟩) := e15
          simp only [putAll, List.take_succ_cons, List.take_zero, List.drop_succ_cons, List.drop_zero, e0, e1, e2, e3, e4, e5, e6, e7, e8, e9, e10, e11, e12, e15, Nat.reduceAdd, Nat.zero_add]
          clear e0 e1 e2 e3 e4 e5 e6 e7 e8 e9 e10 e11 e12 e15
          try simp only [List.setIfInBounds_toArray, List.set_cons_succ, List.set_cons_zero]
          simp only [Nat.reduceAdd, Nat.zero_add] at e14
          obtain ⟨qa', qc', hv14, os', hob14⟩ := app_res (hS := HLT) HI.out.kp.size e14 hI
          rw [hv14]
          have cS := arow_cell (hR.get HROW.out HNS.out.1) 2 rfl
          have fS := frozen_of_row wR b5 2 _ _ (hR.get HROW.out HNS.out.1)
          have HI6 := Lib.hid (HI.out.setS HZ1.out (by rw [← HZS.out]; exact os') hR hob14)
          generalize vs 13 = v13
          clear e14 hv14 os' hob14 hI hR
          clear e13
          clear HLT
          go_upto_region 6 with (fail)
          generalize wR.setCell ⟨b5, 2, none⟩ (.slice qa' (t + 1) qc') = w6 at *
          clear cS fS
          go_cut [7, 8] (fun v7 v8 wx => v7 = .int .i64 xl ∧ v8 = .int .i64 xg ∧ Hid (Kp [] w6 wx))
          case first =>
            have h1 := HX3.out w6 HI6.out.kp
            obtain ⟨h3, h4, h6, h7, -, -⟩ := h1
            have hp3 := arow_cell (HRR.out w6 HI6.out.kp).1 3 rfl
            have hp4 := arow_cell (HRR.out w6 HI6.out.kp).1 4 rfl
            go_wp2_with go_quiet (fail)
            go_meet
            exact ⟨rfl, rfl, Lib.hid (kdNs _ _)⟩
          obtain ⟨rfl, rfl, HK7⟩ := hcut
          obtain ⟨w7, rfl⟩ : ∃ w7 : World, w7 = wc := ⟨_, rfl⟩
          have HI7 := Lib.hid (HI6.out.keep0 HK7.out)
          obtain ⟨m1, hm1⟩ : ∃ m, m = min xl yl := ⟨_, rfl⟩
          obtain ⟨m2, hm2⟩ : ∃ m, m = max xg yg := ⟨_, rfl⟩
          rw [← hm1] at HZ2
          rw [← hm2] at HZ3
          have HM1 : Hid (m1 = if yl < xl then yl else xl) := Lib.hid (by rw [hm1]; split <;> omega)
          have HM2 : Hid (m2 = if xg < yg then yg else xg) := Lib.hid (by rw [hm2]; split <;> omega)
          obtain ⟨-, h4, -, h7, -, -⟩ := HX3.out w7 HI7.out.kp
          have hp3 := arow_cell (HRR.out w7 HI7.out.kp).2.1 3 rfl
          have hp4 := arow_cell (HRR.out w7 HI7.out.kp).2.1 4 rfl
          clear hm1 hm2
          go_upto_if 58 with (fail)
          go_cut [7] (fun v7 wx => v7 = .int .i64 m1 ∧ wx = w7)
          case first =>
            by_cases hc : yl < xl
            · have hv := HM1.out
              rw [if_pos hc] at hv
              go_wp2_with fail
              go_meet
              exact ⟨by rw [hv], rfl⟩
            · have hv := HM1.out
              rw [if_neg hc] at hv
              go_wp2_with fail
              go_meet
              exact ⟨by rw [hv], rfl⟩
          obtain ⟨rfl, rfl⟩ := hcut
          obtain ⟨w8, rfl⟩ : ∃ w8 : World, w8 = wc := ⟨_, rfl⟩
          go_upto_if 70 with (fail)
          go_cut [8] (fun v8 wx => v8 = .int .i64 m2 ∧ wx = w8)
          case first =>
            by_cases hc : xg < yg
            · have hv := HM2.out
              rw [if_pos hc] at hv
              go_wp2_with fail
              go_meet
              exact ⟨by rw [hv], rfl⟩
            · have hv := HM2.out
              rw [if_neg hc] at hv
              go_wp2_with fail
              go_meet
              exact ⟨by rw [hv], rfl⟩
          obtain ⟨rfl, rfl⟩ := hcut
          obtain ⟨w9, rfl⟩ : ∃ w9 : World, w9 = wc := ⟨_, rfl⟩
          have cL := arow_cell HI7.out.row 3 rfl
          have HLN : Hid (t = ((Z.take t).map (·.l)).length) := Lib.hid (by rw [List.length_map, List.length_take, HZL.out]; omega)
          have HGN : Hid (t = ((Z.take t).map (·.g)).length) := Lib.hid (by rw [List.length_map, List.length_take, HZL.out]; omega)
          have HBZ : Hid (w5.heap.size ≤ w9.heap.size) := Lib.hid HI7.out.kp.size
          clear h4 h7 hp3 hp4
          go_upto_region 12 with (at_builtin; refine wpList_app rfl (.tmp 77) (.tmp 79) 32 32 rfl w5.heap.size 2 .i64 8 Try.underlying32 infoI64 ra rc t _ HLN.out [m1] _ 1 rfl rfl rfl (HI7.out.ol.alloc _) (src_one Try.underlying32 (one_cell (heap_alloc_at rfl)).1) (by omega) (by omega) (by have := HBZ.out; simp only [World.size_alloc]; omega) ?_; intro ra1 rc1 wa hoa kpa hoba _; obtain ⟨cL2, fL, hI9⟩ := HI7.out.addL HZ2.out kpa ((Kp.refl [] w9).alloc _) hoa hoba; have HI9 := Lib.hid hI9; clear hoa kpa hoba hI9)
          generalize wa.setCell ⟨b5, 3, none⟩ (.slice ra1 (t + 1) rc1) = wb at *
          clear cL cL2 fL
          have cG := arow_cell HI9.out.row 4 rfl
          have HBZ2 : Hid (w5.heap.size ≤ wb.heap.size) := Lib.hid HI9.out.kp.size
          go_wp2_with (at_builtin; refine wpList_app rfl (.tmp 83) (.tmp 85) 32 32 rfl w5.heap.size 2 .i64 8 Try.underlying32 infoI64 ua uc t _ HGN.out [m2] _ 1 rfl rfl rfl (HI9.out.og.alloc _) (src_one Try.underlying32 (one_cell (heap_alloc_at rfl)).1) (by omega) (by omega) (by have := HBZ2.out; simp only [World.size_alloc]; omega) ?_; intro ua1 uc1 wc2 hoa kpa hoba _; obtain ⟨cG2, fG, hI10⟩ := HI9.out.addG HZ3.out kpa ((Kp.refl [] wb).alloc _) hoa hoba; have HI10 := Lib.hid hI10; clear hoa kpa hoba hI10)
          go_roundw
          case rel => exact ⟨t + 1, qa', qc', ra1, rc1, ua1, uc1, hlt, by go_num, HI10⟩
          case measure => simp [intOf]; omega
      · obtain rfl : mt = t := by omega
        have HRF := Lib.hid HI.out.row
        have HR4 := Lib.hid (HRR.out wt HI.out.kp).2.2
        have hall : Z.take mt = Z := List.take_of_length_le (by rw [HZL.out]; exact Nat.le_refl _)
        have hw5 : w.heap.size ≤ w5.heap.size := (K3.out.tr K35.out).size
        have kF : Kp [] w wt := (K3.out.tr K35.out).trans HI.out.kp (by simp) (fun b hb => .inr (by simp at hb; subst hb; have := HB5.out.2.2.2; have := K3.out.size; omega))
        have HOW : Hid (RaOwn wt w.heap.size ⟨ids, ia1, ic1, cs, Z, qa, qc, ra, rc, ua, uc⟩) := Lib.hid ⟨((HIA.out.keep HI.out.kp (fun b hb hb2 => by simp at hb2; subst hb2; exact ownI_ne HIA.out G5.out (by decide) hb))).mono K3.out.size,
          by have := HI.out.os; rw [hall] at this; exact this.mono hw5, by have := HI.out.ol; rw [hall] at this; exact this.mono hw5, by have := HI.out.og; rw [hall] at this; exact this.mono hw5⟩
        have HKF := Lib.hid kF
        clear hall hw5 kF
        go_wp2_with first
          | (refine wpList_load_row rfl 34 _ rfl b5 rfl 34 #[.slice ia1 k ic1, .int .i64 cs, .slice qa mt qc, .slice ra mt rc, .slice ua mt uc] (0, 0) _ HRF.out Try.underlying34 rfl (by kernel_rfl) ?_)
          | (refine wpList_store_row rfl 34 _ _ rfl p4 #[.slice ia1 k ic1, .int .i64 cs, .slice qa mt qc, .slice ra mt rc, .slice ua mt uc] rfl rfl 34 _ HR4.out (by kernel_rfl) rfl (by simp [Value.oneCell']) ?_)
        refine bodyPost_ret (v := .agg #[.slice ia1 k ic1, .int .i64 cs, .slice qa mt qc, .slice ra mt rc, .slice ua mt uc]) (results_cell_row Try.results49 _ _ p4 34 #[.slice ia1 k ic1, .int .i64 cs, .slice qa mt qc, .slice ra mt rc, .slice ua mt uc] (0, 0) _ rfl (setRow_heap _ p4 _ _ _ _ HR4.out) Try.underlying34 rfl (by kernel_rfl)) rfl ?_
        refine ⟨⟨ids, ia1, ic1, cs, Z, qa, qc, ra, rc, ua, uc⟩, by
          show Ending.returned (Value.agg #[.slice ia1 k ic1, .int .i64 cs, .slice qa mt qc, .slice ra mt rc, .slice ua mt uc]) = .returned (.agg #[.slice ia1 ids.length ic1, .int .i64 cs, .slice qa Z.length qc, .slice ra Z.length rc, .slice ua Z.length uc])
          rw [← HK.out, HZL.out], ?_, ?_, HKF.out.setRowF _ _ (.inr HPS.out.1)⟩
        · show (⟨ids, cs, Z⟩ : PR) = mrg ⟨ids, cnt, ms⟩ ⟨ids2, cnt2, ms2⟩
          rw [HZ.out, ← HCS.out.1]; rfl
        · exact HOW.out.keep (S := [p4]) ((Kp.refl [p4] wt).setRowF _ _ (.inl (by simp))) (fun b hb => by simp at hb; subst hb; exact .inr ⟨_, _, HR4.out⟩)
end Go.Proofs.Ythmaobmgogmaoaa
