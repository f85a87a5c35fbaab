/-
  The document's star-trees: a tree laid out in bytes.
-/
import Derived.Test.YthmaobmgogmaoaaStcJ
import Derived.Test.YthmaobmgogmaoaaStaT
import Derived.Test.YthmaobmgogmaoaaRef01
namespace Go.Proofs.Ythmaobmgogmaoaa
open Go.RowKit Go.Shelf
set_option linter.unusedSimpArgs false
set_option linter.unusedVariables false
set_option maxRecDepth 100000

theorem le_one (z : Int) : le (u64 z) 1 = [IntKind.u8.wrap z] := by
  have h := le_snoc 0 (u64 z)
  rw [h]
  simp [le, u64, IntKind.wrap, IntKind.bits, IntKind.signed]
  omega
theorem u64_nat {n : Nat} (h : n < 18446744073709551616) : u64 (n : Int) = n := by unfold u64; omega
/-- Rows that are no bytes stay. -/
def KeepU (w w' : World) : Prop := ∀ (g : Nat) (cs : Array Value) (t : TypeId) (fr : Nat × Nat), w.heap[g]? = some (.cells cs t fr) → t ≠ 5 → w'.heap[g]? = some (.cells cs t fr)
theorem KeepU.refl (w : World) : KeepU w w := fun _ _ _ _ h _ => h
theorem KeepU.trans {a b c : World} (h : KeepU a b) (k : KeepU b c) : KeepU a c := fun g cs t fr hg ht => k g cs t fr (h g cs t fr hg ht) ht
theorem KeepU.of {a b : World} (h : Kp [] a b) : KeepU a b := fun g cs t fr hg _ => h.get hg (by simp)
theorem KeepU.app {a b : World} {B : Nat} {ad : Option Addr} {cap : Nat} {zs : List Int} (ho : Own a B 5 .u8 ad cap zs) (k : Kp (ob ad cap) a b) : KeepU a b := fun g cs t fr hg ht => k.get hg (fun hb => ownI_ne ho hg (fun e => ht e.symm) hb)
/-- The bytes so far. -/
structure BufA (w0 : World) (ad : Option Addr) (cap ln : Nat) (zs : List Int) (w : World) : Prop where
  own : Own w w0.heap.size 5 .u8 ad cap zs
  len : ln = zs.length
  kp : Kp [] w0 w
theorem BufA.keep0 {w0 : World} {ad : Option Addr} {cap ln : Nat} {zs : List Int} {w w' : World} (h : BufA w0 ad cap ln zs w) (k : Kp [] w w') : BufA w0 ad cap ln zs w' := ⟨h.own.keep0 k, h.len, h.kp.tr k⟩
theorem BufA.app {w0 : World} {ad ad' : Option Addr} {cap cap' ln m : Nat} {zs news : List Int} {w w' : World} (h : BufA w0 ad cap ln zs w) (ho : Own w' w0.heap.size 5 .u8 ad' cap' (zs ++ news)) (k : Kp (ob ad cap) w w') (hm : news.length = m) : BufA w0 ad' cap' (ln + m) (zs ++ news) w' :=
  ⟨ho, by rw [List.length_append, h.len, hm], h.kp.trans k (by simp) (fun b hb => .inr (h.own.ob_ge b hb).1)⟩
theorem BufA.to {w0 : World} {ad : Option Addr} {cap ln : Nat} {zs zs' : List Int} {w : World} (h : BufA w0 ad cap ln zs w) (e : zs = zs') : BufA w0 ad cap ln zs' w := e ▸ h
theorem BufA.cap' {w0 : World} {ad : Option Addr} {cap ln : Nat} {zs : List Int} {w : World} (h : BufA w0 ad cap ln zs w) : ln ≤ cap ∧ cap ≤ 9223372036854775807 := ⟨by rw [h.len]; exact h.own.rd.1, h.own.rd.2.1⟩
/-- A new block of one cell. -/
def SVS.cel {S : List Nat} (B : Nat) (hS : ∀ x ∈ S, x < B) (t : TypeId) (c : Value) : SVS S :=
  ⟨fun v u => ∃ b, v = .slice (some ⟨b, 0, none⟩) 1 1 ∧ B ≤ b ∧ u.heap[b]? = some (.cells #[c] t),
   fun _ _ _ ⟨b, h1, h0, h2⟩ hk => ⟨b, h1, h0, hk.get h2 (fun hb => by have := hS b hb; omega)⟩⟩

set_option maxHeartbeats 6400000 in
theorem r19Bytes_any {T k mt leaf B : Nat} {X : Nat → Prop} {ra : Option Addr} {rc : Nat} {RL : List Ra} {na : Option Addr} {nc : Nat} {NL : List Nh} (w : World) (h : RTree T k mt leaf B X ra rc RL na nc NL w) (hk8 : k ≤ 8) (hmt : mt ≤ 1000)
    (hkb : ∀ y ∈ NL, y.kids.length ≤ 100000000) (hbR : ((RL.map Ra.pr).flatMap recB).length ≤ 420000000000) (hbN : ((NL.map pn).flatMap nodeB).length ≤ 420000000000) (hrb : RL.length ≤ 100000) (hnb : NL.length ≤ 100000000) :
    Calls Try.prog 26 #[.pointer (some ⟨T, 0, none⟩), .int .i64 (mt : Int)] w fun e w' => ∃ ad cap, e = .returned (.slice ad (treeB k mt (RL.map Ra.pr) (NL.map pn)).length cap) ∧ Own w' w.heap.size 5 .u8 ad cap (treeB k mt (RL.map Ra.pr) (NL.map pn)) ∧ Kp [] w w' := by
  have H := Lib.hid h
  obtain ⟨R, hR⟩ : ∃ R, R = RL.map Ra.pr := ⟨_, rfl⟩
  obtain ⟨N, hN⟩ : ∃ N, N = NL.map pn := ⟨_, rfl⟩
  rw [← hR] at hbR
  rw [← hN] at hbN
  rw [← hR, ← hN]
  obtain ⟨rn, hrn⟩ : ∃ rn, rn = RL.length := ⟨_, rfl⟩
  obtain ⟨nn, hnn⟩ : ∃ nn, nn = NL.length := ⟨_, rfl⟩
  rw [← hrn] at hrb
  rw [← hnn] at hnb
  have HRN : Hid (R.length = rn) := Lib.hid (by rw [hR, List.length_map, hrn])
  have HNN : Hid (N.length = nn) := Lib.hid (by rw [hN, List.length_map, hnn])
  have HC : Hid (∀ W, Kp [] w W → W.cell? ⟨T, 0, none⟩ = some (.int .i64 k) ∧ W.cell? ⟨T, 2, none⟩ = some (.slice ra rn rc) ∧ W.cell? ⟨T, 3, none⟩ = some (.slice na nn nc)) := Lib.hid (fun W hW => by
    obtain ⟨c0, -, c2, c3, -, -⟩ := (h.keep0 hW).cell
    rw [hrn, hnn]
    exact ⟨c0, c2, c3⟩)
  have hrc : rn ≤ rc ∧ rc ≤ 9223372036854775807 := ⟨by rw [hrn]; exact (h.recs.rd ralies).1, (h.recs.rd ralies).2.1⟩
  have hncc : nn ≤ nc ∧ nc ≤ 9223372036854775807 := ⟨by rw [hnn]; exact (h.nodes.rd nlies).1, (h.nodes.rd nlies).2.1⟩
  have HREC : Hid (∀ i, i < rn → ∃ g x, ra = some ⟨g, 0, none⟩ ∧ R[i]? = some (Ra.pr x) ∧ x.ids.length = k ∧ x.ms.length = mt ∧ ∀ W, Kp [] w W → W.rangeAt g (i * 5) (racells x) ∧ RaRd W x) := Lib.hid (fun i hi => by
    rw [hrn] at hi
    obtain ⟨g, h1, hc, -, -⟩ := h.recs.at' ralies hi
    obtain ⟨g1, g2, g3⟩ := h.good _ (List.getElem_mem hi)
    refine ⟨g, RL[i], h1, by rw [hR]; simp [hi], g2, g3, fun W hW => ⟨range_keep (fun j v hv => ?_) hW, g1.rd.keep0 hW⟩⟩
    rw [(hc j (List.getElem?_eq_some_iff.1 hv).1).1]; exact hv)
  have HNODE : Hid (∀ i, i < nn → ∃ g y, na = some ⟨g, 0, none⟩ ∧ N[i]? = some (pn y) ∧ y.kn = y.kids.length ∧ y.kids.length ≤ 100000000 ∧ ∀ W, Kp [] w W → W.rangeAt g (i * 4) (ncells y) ∧ RdS kdcells 2 W y.ka y.kc y.kids) := Lib.hid (fun i hi => by
    rw [hnn] at hi
    obtain ⟨g, h1, hc, -, -⟩ := h.nodes.at' nlies hi
    have hg := h.kids _ (List.getElem_mem hi)
    refine ⟨g, NL[i], h1, by rw [hN]; simp [hi], hg.1, hkb _ (List.getElem_mem hi), fun W hW => ⟨range_keep (fun j v hv => ?_) hW, RdS.keep0 (hg.2.1.rd kdlies) kdlies.len hW⟩⟩
    rw [(hc j (List.getElem?_eq_some_iff.1 hv).1).1]; exact hv)
  have HBR := Lib.hid hbR
  have HBN := Lib.hid hbN
  have hk8w : IntKind.u8.wrap (k : Int) = (k : Int) := by simp [IntKind.wrap, IntKind.bits, IntKind.signed]; omega
  have HK1 : Hid (le (u64 (k : Int)) 1 = [(k : Int)]) := Lib.hid (by rw [le_one, hk8w])
  have hmtw : IntKind.u64.wrap (mt : Int) = (mt : Int) := by rw [u64_wrap, u64_nat (by omega)]
  have hrnw : IntKind.u64.wrap (rn : Int) = (rn : Int) := by rw [u64_wrap, u64_nat (by omega)]
  have hnnw : IntKind.u64.wrap (nn : Int) = (nn : Int) := by rw [u64_wrap, u64_nat (by omega)]
  have hS0 : ∀ x ∈ ([] : List Nat), x < w.heap.size := by simp
  clear h hR hN hrn hnn hkb hbR hbN
  go_enter Try.func26, Try.ntmps26
  go_upto_region 1 with (fail)
  refine wp_region_GS (by kernel_rfl) [] [.val (.pointer (some ⟨T, 0, none⟩)), .val (.pointer (some ⟨T, 0, none⟩)), .val (.pointer (some ⟨T, 0, none⟩)), .val (.int .i64 (k : Int)), .val (.int .u8 (k : Int)), .cel w.heap.size hS0 5 (.int .u8 (k : Int)), .val (.int .i64 (mt : Int)), .val (.int .u64 (mt : Int)), .own w.heap.size hS0 5 .u8 2 (le mt 2), .own w.heap.size hS0 5 .u8 3 ([(k : Int)] ++ le mt 2), .own w.heap.size hS0 5 .u8 3 ([(k : Int)] ++ le mt 2)] [[(0, none)], [(13, some 0)], [(14, some 1)], [(15, some 2)], [(16, some 3)], [(17, some 4)], [(1, none)], [(19, some 6)], [(20, some 7)], [(18, some 5), (21, some 8)], [(22, some 9)]] [] (fun _ _ => True) 11 rfl (by kernel_rfl) (by kernel_rfl) (by kernel_rfl) (by kernel_rfl) (by kernel_rfl) (by simp) (fun _ _ _ h _ => h) trivial ?_ ?_
  · refine (ObG.free rfl ?o0 (ObG.free rfl ?o1 (ObG.free rfl ?o2 (ObG.free rfl ?o3 (ObG.free rfl ?o4 (ObG.free rfl ?o5 (ObG.free rfl ?o6 (ObG.free rfl ?o7 (ObG.free rfl ?o8 (ObG.free rfl ?o9 (ObG.free rfl ?o10 trivial)))))))))))
    case o0 => intro aR wR mR hR hI; replace hR := hR.undrew; intro (h0 : aR.tmps[0]? = some (.pointer (some ⟨T, 0, none⟩))); exact exec_val (c := .pointer (some ⟨T, 0, none⟩)) (wanted_none rfl) (by go_simp) rfl
    case o1 => intro aR wR mR hR hI; replace hR := hR.undrew; intro v13 h13 e13; replace e13 : v13 = .pointer (some ⟨T, 0, none⟩) := e13; subst e13; exact exec_val (c := .pointer (some ⟨T, 0, none⟩)) (wanted_none rfl) (by go_simp) rfl
    case o2 => intro aR wR mR hR hI; replace hR := hR.undrew; intro v14 h14 e14; replace e14 : v14 = .pointer (some ⟨T, 0, none⟩) := e14; subst e14; exact exec_val (c := .pointer (some ⟨T, 0, none⟩)) (wanted_none rfl) (by go_simp) rfl
    case o3 => intro aR wR mR hR hI; replace hR := hR.undrew; intro v15 h15 e15; replace e15 : v15 = .pointer (some ⟨T, 0, none⟩) := e15; subst e15; (have h1 := (HC.out wR hR).1); exact exec_val (c := .int .i64 (k : Int)) (wanted_none rfl) (by go_simp) rfl
    case o4 => intro aR wR mR hR hI; replace hR := hR.undrew; intro v16 h16 e16; replace e16 : v16 = .int .i64 (k : Int) := e16; subst e16; exact exec_val (c := .int .u8 (k : Int)) (wanted_none rfl) (by go_simp) rfl
    case o5 => intro aR wR mR hR hI; replace hR := hR.undrew; intro v17 h17 e17; replace e17 : v17 = .int .u8 (k : Int) := e17; subst e17; exact exec_do (c := .slice (some ⟨wR.heap.size, 0, none⟩) 1 1) (w' := wR.alloc (.cells #[.int .u8 (k : Int)] 5)) (wanted_none rfl) (by go_simp) ⟨_, rfl, hR.size, heap_alloc_at rfl⟩ ((Kp.refl [] _).alloc _)
    case o6 => intro aR wR mR hR hI; replace hR := hR.undrew; intro (h1 : aR.tmps[1]? = some (.int .i64 (mt : Int))); exact exec_val (c := .int .i64 (mt : Int)) (wanted_none rfl) (by go_simp) rfl
    case o7 => intro aR wR mR hR hI; replace hR := hR.undrew; intro v19 h19 e19; replace e19 : v19 = .int .i64 (mt : Int) := e19; subst e19; exact exec_val (c := .int .u64 (mt : Int)) (wanted_none rfl) (by go_simp) rfl
    case o8 => intro aR wR mR hR hI; replace hR := hR.undrew; intro v20 h20 e20; replace e20 : v20 = .int .u64 (mt : Int) := e20; subst e20; refine exec_call (wanted_none rfl) (by go_simp; exact ⟨rfl, rfl⟩) ?_; refine (little_any mt 2 wR (by omega) (by omega)).mono ?_; rintro e7 w8 ⟨ad, cap, rfl, ho, kp8⟩; exact ⟨_, rfl, ⟨ad, cap, rfl, ho.mono hR.size⟩, kp8⟩
    case o9 => intro aR wR mR hR hI; replace hR := hR.undrew; intro v18 h18 e18; intro v21 h21 e21; obtain ⟨b9, rfl, hb9, hr9⟩ := e18; obtain ⟨ad9, cap9, rfl, ho9⟩ := e21; exact exec_growS (wanted_none rfl) (.tmp 18) (.tmp 21) 46 46 rfl w.heap.size 5 .u8 1 Try.underlying46 infoU8 (some ⟨b9, 0, none⟩) 1 1 [(k : Int)] rfl (le mt 2) (.slice ad9 2 cap9) 2 (by rw [le_length]) (by go_simp) (by go_simp) (Own.row (base := w.heap.size) (zs := [(k : Int)]) hb9 hr9 (by simp)).rd (by have := src_rd ho9.rd Try.underlying46; rw [le_length] at this; exact this) (by omega) (by omega) (by omega) hR.size (fun ad8 cap8 w' g1 g2 => ⟨ad8, cap8, rfl, g1⟩)
    case o10 => intro aR wR mR hR hI; replace hR := hR.undrew; intro v22 h22 e22; exact exec_val (wanted_none rfl) (by go_simp) e22
  · intro vs wR hR hI hV
    obtain ⟨e0, e1, e2, e3, e4, e5, e6, e7, e8, e9, e10, -⟩ := hV
    replace e0 : vs 0 = .pointer (some ⟨T, 0, none⟩) := e0
    replace e1 : vs 1 = .pointer (some ⟨T, 0, none⟩) := e1
    replace e2 : vs 2 = .pointer (some ⟨T, 0, none⟩) := e2
    replace e3 : vs 3 = .int .i64 (k : Int) := e3
    replace e4 : vs 4 = .int .u8 (k : Int) := e4
    replace e6 : vs 6 = .int .i64 (mt : Int) := e6
    replace e7 : vs 7 = .int .u64 (mt : Int) := e7
    simp only [putAll, List.take_succ_cons, List.take_zero, List.drop_succ_cons, List.drop_zero, e0, e1, e2, e3, e4, e6, e7, Nat.reduceAdd, Nat.zero_add]
    clear e0 e1 e2 e3 e4 e6 e7
    try simp only [List.setIfInBounds_toArray, List.set_cons_succ, List.set_cons_zero]
    refine wpList_nil ?_
    simp only [Nat.reduceAdd, Nat.zero_add] at e10
    obtain ⟨ad0, cap0, hv10, ho0⟩ := e10
    rw [hv10]
    obtain ⟨w1, rfl⟩ : ∃ w1 : World, w1 = wR := ⟨_, rfl⟩
    have HB0 : Hid (BufA w ad0 cap0 3 ([(k : Int)] ++ le mt 2) w1) := Lib.hid ⟨ho0, by simp [le_length], hR⟩
    obtain ⟨-, c2, -⟩ := HC.out w1 hR
    generalize vs 5 = v5
    generalize vs 8 = v8
    generalize vs 9 = v9
    generalize vs 10 = v10
    clear e5 e8 e9 hv10 ho0 hI hR hS0 hk8w
    go_wp2_with fail
    refine (little_any rn 4 w1 (by omega) (by omega)).mono ?_
    rintro _ wl1 ⟨la2, lc3, rfl, ho, kp⟩
    have HB5 := Lib.hid (HB0.out.keep0 kp)
    have HL4 := Lib.hid ho
    clear ho kp
    clear c2
    go_wp2_with (at_builtin; refine wpList_app rfl (.tmp 23) (.tmp 30) 46 46 rfl w.heap.size 5 .u8 1 Try.underlying46 infoU8 ad0 cap0 (3) ([(k : Int)] ++ le mt 2) HB5.out.len (le rn 4) _ 4 (by rw [le_length]) rfl rfl HB5.out.own (by have := src_rd HL4.out.rd Try.underlying46; rw [le_length] at this; exact this) (by omega) (by omega) HB5.out.kp.size ?_; intro ad7 cap8 wa9 ho kp _ _; have HB10 := Lib.hid (HB5.out.app ho kp (le_length _ _)); clear ho kp)
    obtain ⟨Z1, hZ1⟩ : ∃ Z, Z = [(k : Int)] ++ le mt 2 ++ le rn 4 := ⟨_, rfl⟩
    rw [← hZ1] at HB10
    have HZ1 : Hid (Z1 = headB k mt R.length) := Lib.hid (by rw [hZ1, headB, List.nil_append, HK1.out, HRN.out, u64_nat (by omega), u64_nat (by omega)])
    have HZL : Hid (Z1.length = 7) := Lib.hid (by rw [HZ1.out, headB_length])
    clear hZ1
    go_loopw [5, 6] (fun vo vi wr => ∃ (i ln : Nat) (ad : Option Addr) (cap : Nat), i ≤ rn ∧ ln ≤ 420000000007 ∧ vi = .int .i64 i ∧ vo = .slice ad ln cap ∧ Hid (BufA w ad cap ln (Z1 ++ (R.take i).flatMap recB) wr)) (fun _ vi _ => rn - (intOf vi).toNat)
    case atStart => exact ⟨0, _, _, _, Nat.zero_le _, by omega, rfl, rfl, Lib.hid (HB10.out.to (by simp))⟩
    case round =>
      obtain ⟨i, ln, ad, cap, hi, hln, rfl, rfl, HB⟩ := hrel
      obtain ⟨ws, rfl⟩ : ∃ ws : World, ws = wr := ⟨_, rfl⟩
      obtain ⟨-, c2, -⟩ := HC.out ws HB.out.kp
      have hcp := HB.out.cap'
      by_cases hlt : i < rn
      · obtain ⟨g, x, hra, hxR, hx1, hx2, hx3⟩ := HREC.out i hlt
        subst hra
        obtain ⟨ids, ia, ic, cnt, ms, sa, sc, ma, mc, gb, gc⟩ := x
        dsimp only at hx1 hx2
        have HX : Hid (∀ W, Kp [] w W → W.rangeAt g (i * 5) [.slice ia k ic, .int .i64 cnt, .slice sa mt sc, .slice ma mt mc, .slice gb mt gc] ∧ RaRd W ⟨ids, ia, ic, cnt, ms, sa, sc, ma, mc, gb, gc⟩) := Lib.hid (fun W hW => by
          have := hx3 W hW
          unfold racells at this
          dsimp only at this
          rw [hx1, hx2] at this
          exact this)
        have hxr := (hx3 ws HB.out.kp).2
        have hicc : k ≤ ic ∧ ic ≤ 9223372036854775807 := ⟨by rw [← hx1]; exact hxr.1.1, hxr.1.2.1⟩
        have hscc : (mt ≤ sc ∧ sc ≤ 9223372036854775807) ∧ (mt ≤ mc ∧ mc ≤ 9223372036854775807) ∧ (mt ≤ gc ∧ gc ≤ 9223372036854775807) := by
          have h1 := hxr.2.1.1
          have h2 := hxr.2.2.1.1
          have h3 := hxr.2.2.2.1
          dsimp only at h1 h2 h3
          rw [List.length_map, hx2] at h1 h2 h3
          exact ⟨⟨h1, hxr.2.1.2.1⟩, ⟨h2, hxr.2.2.1.2.1⟩, ⟨h3, hxr.2.2.2.2.1⟩⟩
        obtain ⟨⟨hsc1, hsc2⟩, ⟨hmc1, hmc2⟩, hgc1, hgc2⟩ := hscc
        have HSTEP : Hid ((R.take (i + 1)).flatMap recB = (R.take i).flatMap recB ++ (ids.flatMap idB ++ le (Go.Proofs.Ythmaobmgogmaoaa.u64 cnt) 8 ++ ms.flatMap sumB)) := Lib.hid (flat_step recB hxR)
        have HXL : Hid (ids.length = k ∧ ms.length = mt) := Lib.hid ⟨hx1, hx2⟩
        have HRG := Lib.hid (HX.out ws HB.out.kp).1
        clear hxR hx1 hx2 hx3 hxr
        go_upto_region 7 with first
          | (refine wpList_load_mid rfl 34 _ rfl g (i * 5) rfl [.slice ia k ic, .int .i64 cnt, .slice sa mt sc, .slice ma mt mc, .slice gb mt gc] _ HRG.out Try.underlying34 rfl (by kernel_rfl) ?_)
          | (refine wpList_store_row rfl 34 _ _ rfl ws.heap.size #[.slice ia k ic, .int .i64 cnt, .slice sa mt sc, .slice ma mt mc, .slice gb mt gc] rfl rfl 34 _ (heap_alloc_at rfl) (by kernel_rfl) rfl (by simp [Value.oneCell']) ?_)
        obtain ⟨px, hpx⟩ : ∃ px, px = ws.heap.size := ⟨_, rfl⟩
        rw [← hpx]
        generalize hwq : (ws.alloc (Obj.cells #[.slice none 0 0, .int .i64 0, .slice none 0 0, .slice none 0 0, .slice none 0 0] 34)).setRow px #[.slice ia k ic, .int .i64 cnt, .slice sa mt sc, .slice ma mt mc, .slice gb mt gc] = wq
        have HPX : Hid (wq.heap[px]? = some (.cells #[.slice ia k ic, .int .i64 cnt, .slice sa mt sc, .slice ma mt mc, .slice gb mt gc] 34)) := Lib.hid (by rw [← hwq]; exact setRow_heap _ px _ _ _ _ (heap_alloc_at hpx))
        have hkq : Kp [] ws wq := by rw [← hwq]; exact ((Kp.refl [] ws).alloc _).setRowF _ _ (.inr (by omega))
        have HBq := Lib.hid (HB.out.keep0 hkq)
        obtain ⟨Z2, hZ2⟩ : ∃ Z, Z = Z1 ++ (R.take i).flatMap recB := ⟨_, rfl⟩
        rw [← hZ2] at HBq
        have HZ2 := Lib.hid hZ2
        have HROW : Hid (∀ W, KeepU wq W → W.cell? ⟨px, 0, none⟩ = some (.slice ia k ic) ∧ W.cell? ⟨px, 1, none⟩ = some (.int .i64 cnt) ∧ W.cell? ⟨px, 2, none⟩ = some (.slice sa mt sc) ∧ W.cell? ⟨px, 3, none⟩ = some (.slice ma mt mc) ∧ W.cell? ⟨px, 4, none⟩ = some (.slice gb mt gc)) := Lib.hid (fun W hW => by
          have h1 := hW _ _ _ _ HPX.out (by decide)
          exact ⟨by rw [cell_of_row W px 0 _ _ _ h1]; rfl, by rw [cell_of_row W px 1 _ _ _ h1]; rfl, by rw [cell_of_row W px 2 _ _ _ h1]; rfl, by rw [cell_of_row W px 3 _ _ _ h1]; rfl, by rw [cell_of_row W px 4 _ _ _ h1]; rfl⟩)
        have HKS := Lib.hid hkq.size
        clear hwq hkq hpx hZ2 c2 hcp
        simp only [Act.put]
        go_wp2_with fail
        go_loopw [5, 8] (fun vo vj wr => ∃ (j lj : Nat) (ad : Option Addr) (cap : Nat), j ≤ k ∧ lj ≤ ln + 4 * j ∧ vj = .int .i64 j ∧ vo = .slice ad lj cap ∧ Hid (BufA w ad cap lj (Z2 ++ (ids.take j).flatMap idB) wr) ∧ Hid (KeepU wq wr)) (fun _ vj _ => k - (intOf vj).toNat)
        case atStart => exact ⟨0, _, _, _, Nat.zero_le _, by omega, rfl, rfl, Lib.hid (HBq.out.to (by simp)), Lib.hid (KeepU.refl _)⟩
        case round =>
          obtain ⟨j, lj, ad, cap, hj, hlj, rfl, rfl, HBj, KUj⟩ := hrel
          obtain ⟨wj, rfl⟩ : ∃ wj : World, wj = wr := ⟨_, rfl⟩
          obtain ⟨c0, -, -⟩ := HC.out wj HBj.out.kp
          obtain ⟨p0, p1, -, -, -⟩ := HROW.out wj KUj.out
          have hcp := HBj.out.cap'
          by_cases hltj : j < k
          · have hji : j < ids.length := by rw [HXL.out.1]; exact hltj
            obtain ⟨bi, oi, hia, ci⟩ := (HX.out wj HBj.out.kp).2.1.2.2 j hji
            dsimp only at hia
            subst hia
            have HJS : Hid ((ids.take (j + 1)).flatMap idB = (ids.take j).flatMap idB ++ idB (nth ids j)) := Lib.hid (flat_step idB (by simp [nth, hji]))
            dsimp only at ci
            generalize nth ids j = z at ci HJS
            obtain ⟨v, hv⟩ : ∃ v, v = IntKind.i64.wrap (z + 1) := ⟨_, rfl⟩
            obtain ⟨n, hn⟩ : ∃ n, n = Go.Proofs.Ythmaobmgogmaoaa.u64 v := ⟨_, rfl⟩
            have hw1 : IntKind.i64.wrap (z + 1) = v := hv.symm
            have hw2 : IntKind.u64.wrap v = (n : Int) := by rw [u64_wrap, hn]
            have HNL : Hid (n < 18446744073709551616) := Lib.hid (by rw [hn]; exact u64_lt v)
            have HIB : Hid (idB z = le n 4) := Lib.hid (by rw [idB, hn, hv, u64_i64])
            clear hv hn hji p1
            go_wp2_with fail
            refine (little_any n 4 wj HNL.out (by omega)).mono ?_
            rintro _ wl12 ⟨la13, lc14, rfl, ho, kp⟩
            have HB16 := Lib.hid (HBj.out.keep0 kp)
            have HL15 := Lib.hid ho
            have KU17 := Lib.hid (KUj.out.trans (KeepU.of kp))
            clear ho kp
            clear c0 p0 ci hw1 hw2
            go_wp2_with (at_builtin; refine wpList_app rfl (.tmp 56) (.tmp 64) 46 46 rfl w.heap.size 5 .u8 1 Try.underlying46 infoU8 ad cap (lj) (Z2 ++ (ids.take j).flatMap idB) HB16.out.len (le n 4) _ 4 (by rw [le_length]) rfl rfl HB16.out.own (by have := src_rd HL15.out.rd Try.underlying46; rw [le_length] at this; exact this) (by omega) (by omega) HB16.out.kp.size ?_; intro ad18 cap19 wa20 ho kp _ _; have HB21 := Lib.hid (HB16.out.app ho kp (le_length _ _)); have KU22 := Lib.hid (KU17.out.trans (KeepU.app HB16.out.own kp)); clear ho kp)
            go_roundw
            case rel => exact ⟨j + 1, _, _, _, hltj, by omega, by go_num, rfl, Lib.hid (HB21.out.to (by rw [HJS.out, HIB.out, List.append_assoc])), KU22⟩
            case measure => simp [intOf]; omega
          · obtain rfl : k = j := by omega
            have HBk : Hid (BufA w ad cap lj (Z2 ++ ids.flatMap idB) wj) := Lib.hid (HBj.out.to (by rw [List.take_of_length_le (by rw [HXL.out.1]; exact Nat.le_refl _)]))
            obtain ⟨n, hn⟩ : ∃ n, n = Go.Proofs.Ythmaobmgogmaoaa.u64 cnt := ⟨_, rfl⟩
            have hw2 : IntKind.u64.wrap cnt = (n : Int) := by rw [u64_wrap, hn]
            have HNL : Hid (n < 18446744073709551616) := Lib.hid (by rw [hn]; exact u64_lt cnt)
            have HCN := Lib.hid hn
            clear hn p0
            go_wp2_with fail
            refine (little_any n 8 wj HNL.out (by omega)).mono ?_
            rintro _ wl23 ⟨la24, lc25, rfl, ho, kp⟩
            have HB27 := Lib.hid (HBk.out.keep0 kp)
            have HL26 := Lib.hid ho
            have KU28 := Lib.hid (KUj.out.trans (KeepU.of kp))
            clear ho kp
            clear c0 p1 hw2
            go_wp2_with (at_builtin; refine wpList_app rfl (.tmp 66) (.tmp 70) 46 46 rfl w.heap.size 5 .u8 1 Try.underlying46 infoU8 ad cap (lj) (Z2 ++ ids.flatMap idB) HB27.out.len (le n 8) _ 8 (by rw [le_length]) rfl rfl HB27.out.own (by have := src_rd HL26.out.rd Try.underlying46; rw [le_length] at this; exact this) (by omega) (by omega) HB27.out.kp.size ?_; intro ad29 cap30 wa31 ho kp _ _; have HB32 := Lib.hid (HB27.out.app ho kp (le_length _ _)); have KU33 := Lib.hid (KU28.out.trans (KeepU.app HB27.out.own kp)); clear ho kp)
            obtain ⟨Z3, hZ3⟩ : ∃ Z, Z = Z2 ++ ids.flatMap idB ++ le n 8 := ⟨_, rfl⟩
            rw [← hZ3] at HB32
            have HZ3 := Lib.hid hZ3
            clear hZ3
            go_loopw [5, 9] (fun vo vj wr => ∃ (s ls : Nat) (ad : Option Addr) (cap : Nat), s ≤ mt ∧ ls ≤ lj + 8 + 24 * s ∧ vj = .int .i64 s ∧ vo = .slice ad ls cap ∧ Hid (BufA w ad cap ls (Z3 ++ (ms.take s).flatMap sumB) wr) ∧ Hid (KeepU wq wr)) (fun _ vj _ => mt - (intOf vj).toNat)
            case atStart => exact ⟨0, _, _, _, Nat.zero_le _, by omega, rfl, rfl, Lib.hid (HB32.out.to (by simp)), KU33⟩
            case round =>
              obtain ⟨s, ls, ad, cap, hs, hls, rfl, rfl, HBs, KUs⟩ := hrel
              obtain ⟨wu, rfl⟩ : ∃ wu : World, wu = wr := ⟨_, rfl⟩
              have hcp := HBs.out.cap'
              by_cases hlts : s < mt
              · have hsm : s < ms.length := by rw [HXL.out.2]; exact hlts
                obtain ⟨-, -, p2, -, -⟩ := HROW.out wu KUs.out
                have HRX : Hid (∀ W, Kp [] w W → RaRd W ⟨ids, ia, ic, cnt, ms, sa, sc, ma, mc, gb, gc⟩) := Lib.hid (fun W hW => (HX.out W hW).2)
                obtain ⟨b1, o1, h1, q1⟩ := (HRX.out wu HBs.out.kp).2.1.2.2 s (by simpa using hsm)
                obtain ⟨b2, o2, h2, q2⟩ := (HRX.out wu HBs.out.kp).2.2.1.2.2 s (by simpa using hsm)
                obtain ⟨b3, o3, h3, q3⟩ := (HRX.out wu HBs.out.kp).2.2.2.2.2 s (by simpa using hsm)
                dsimp only at h1 h2 h3 q1 q2 q3
                subst h1
                subst h2
                subst h3
                have HSS : Hid ((ms.take (s + 1)).flatMap sumB = (ms.take s).flatMap sumB ++ sumB ms[s]) := Lib.hid (flat_step sumB (List.getElem?_eq_getElem hsm))
                have e1 : nth (ms.map (·.s)) s = ms[s].s := by simp [nth, hsm]
                have e2 : nth (ms.map (·.l)) s = ms[s].l := by simp [nth, hsm]
                have e3 : nth (ms.map (·.g)) s = ms[s].g := by simp [nth, hsm]
                rw [e1] at q1
                rw [e2] at q2
                rw [e3] at q3
                have HQ : Hid (∀ W, Kp [] w W → W.cell? ⟨b1, o1 + s, none⟩ = some (.int .i64 ms[s].s) ∧ W.cell? ⟨b2, o2 + s, none⟩ = some (.int .i64 ms[s].l) ∧ W.cell? ⟨b3, o3 + s, none⟩ = some (.int .i64 ms[s].g)) := Lib.hid (fun W hW => by
                  obtain ⟨b1', o1', h1', q1'⟩ := (HRX.out W hW).2.1.2.2 s (by simpa using hsm)
                  obtain ⟨b2', o2', h2', q2'⟩ := (HRX.out W hW).2.2.1.2.2 s (by simpa using hsm)
                  obtain ⟨b3', o3', h3', q3'⟩ := (HRX.out W hW).2.2.2.2.2 s (by simpa using hsm)
                  cases h1'
                  cases h2'
                  cases h3'
                  dsimp only at q1' q2' q3'
                  rw [e1] at q1'
                  rw [e2] at q2'
                  rw [e3] at q3'
                  exact ⟨q1', q2', q3'⟩)
                clear e1 e2 e3 q2 q3
                generalize ms[s] = y at q1 HSS HQ
                obtain ⟨s1, l1, g1⟩ := y
                dsimp only at q1 HSS HQ
                obtain ⟨n1, hn1⟩ : ∃ n, n = Go.Proofs.Ythmaobmgogmaoaa.u64 s1 := ⟨_, rfl⟩
                obtain ⟨n2, hn2⟩ : ∃ n, n = Go.Proofs.Ythmaobmgogmaoaa.u64 l1 := ⟨_, rfl⟩
                obtain ⟨n3, hn3⟩ : ∃ n, n = Go.Proofs.Ythmaobmgogmaoaa.u64 g1 := ⟨_, rfl⟩
                have hw1 : IntKind.u64.wrap s1 = (n1 : Int) := by rw [u64_wrap, hn1]
                have hw2 : IntKind.u64.wrap l1 = (n2 : Int) := by rw [u64_wrap, hn2]
                have hw3 : IntKind.u64.wrap g1 = (n3 : Int) := by rw [u64_wrap, hn3]
                have HNL : Hid (n1 < 18446744073709551616 ∧ n2 < 18446744073709551616 ∧ n3 < 18446744073709551616) := Lib.hid ⟨by rw [hn1]; exact u64_lt _, by rw [hn2]; exact u64_lt _, by rw [hn3]; exact u64_lt _⟩
                have HSB : Hid (sumB ⟨s1, l1, g1⟩ = le n1 8 ++ le n2 8 ++ le n3 8) := Lib.hid (by rw [sumB, hn1, hn2, hn3])
                clear hn1 hn2 hn3 hsm
                go_wp2_with fail
                refine (little_any n1 8 wu HNL.out.1 (by omega)).mono ?_
                rintro _ wl34 ⟨la35, lc36, rfl, ho, kp⟩
                have HB38 := Lib.hid (HBs.out.keep0 kp)
                have HL37 := Lib.hid ho
                have KU39 := Lib.hid (KUs.out.trans (KeepU.of kp))
                clear ho kp
                clear p2 q1 hw1
                clear hcp
                go_wp2_with (at_builtin; refine wpList_app rfl (.tmp 77) (.tmp 84) 46 46 rfl w.heap.size 5 .u8 1 Try.underlying46 infoU8 ad cap (ls) (Z3 ++ (ms.take s).flatMap sumB) HB38.out.len (le n1 8) _ 8 (by rw [le_length]) rfl rfl HB38.out.own (by have := src_rd HL37.out.rd Try.underlying46; rw [le_length] at this; exact this) (by omega) (by omega) HB38.out.kp.size ?_; intro ad40 cap41 wa42 ho kp _ _; have HB43 := Lib.hid (HB38.out.app ho kp (le_length _ _)); have KU44 := Lib.hid (KU39.out.trans (KeepU.app HB38.out.own kp)); clear ho kp; obtain ⟨-, -, -, p3, -⟩ := HROW.out wa42 KU44.out; have q2 := (HQ.out wa42 HB43.out.kp).2.1; have hcp := HB43.out.cap')
                refine (little_any n2 8 wa42 HNL.out.2.1 (by omega)).mono ?_
                rintro _ wl45 ⟨la46, lc47, rfl, ho, kp⟩
                have HB49 := Lib.hid (HB43.out.keep0 kp)
                have HL48 := Lib.hid ho
                have KU50 := Lib.hid (KU44.out.trans (KeepU.of kp))
                clear ho kp
                clear p3 q2 hw2 hcp
                go_wp2_with (at_builtin; refine wpList_app rfl (.tmp 86) (.tmp 93) 46 46 rfl w.heap.size 5 .u8 1 Try.underlying46 infoU8 ad40 cap41 (ls + 8) (Z3 ++ (ms.take s).flatMap sumB ++ le n1 8) HB49.out.len (le n2 8) _ 8 (by rw [le_length]) rfl rfl HB49.out.own (by have := src_rd HL48.out.rd Try.underlying46; rw [le_length] at this; exact this) (by omega) (by omega) HB49.out.kp.size ?_; intro ad51 cap52 wa53 ho kp _ _; have HB54 := Lib.hid (HB49.out.app ho kp (le_length _ _)); have KU55 := Lib.hid (KU50.out.trans (KeepU.app HB49.out.own kp)); clear ho kp; obtain ⟨-, -, -, -, p4⟩ := HROW.out wa53 KU55.out; have q3 := (HQ.out wa53 HB54.out.kp).2.2; have hcp := HB54.out.cap')
                refine (little_any n3 8 wa53 HNL.out.2.2 (by omega)).mono ?_
                rintro _ wl56 ⟨la57, lc58, rfl, ho, kp⟩
                have HB60 := Lib.hid (HB54.out.keep0 kp)
                have HL59 := Lib.hid ho
                have KU61 := Lib.hid (KU55.out.trans (KeepU.of kp))
                clear ho kp
                clear p4 q3 hw3 hcp
                go_wp2_with (at_builtin; refine wpList_app rfl (.tmp 95) (.tmp 102) 46 46 rfl w.heap.size 5 .u8 1 Try.underlying46 infoU8 ad51 cap52 (ls + 8 + 8) (Z3 ++ (ms.take s).flatMap sumB ++ le n1 8 ++ le n2 8) HB60.out.len (le n3 8) _ 8 (by rw [le_length]) rfl rfl HB60.out.own (by have := src_rd HL59.out.rd Try.underlying46; rw [le_length] at this; exact this) (by omega) (by omega) HB60.out.kp.size ?_; intro ad62 cap63 wa64 ho kp _ _; have HB65 := Lib.hid (HB60.out.app ho kp (le_length _ _)); have KU66 := Lib.hid (KU61.out.trans (KeepU.app HB60.out.own kp)); clear ho kp)
                go_roundw
                case rel => exact ⟨s + 1, _, _, _, hlts, by omega, by go_num, rfl, Lib.hid (HB65.out.to (by rw [HSS.out, HSB.out]; simp only [List.append_assoc])), KU66⟩
                case measure => simp [intOf]; omega
              · obtain rfl : mt = s := by omega
                have HBn : Hid (BufA w ad cap ls (Z1 ++ (R.take (i + 1)).flatMap recB) wu) := Lib.hid (HBs.out.to (by
                  rw [List.take_of_length_le (by rw [HXL.out.2]; exact Nat.le_refl _), HZ3.out, HZ2.out, HSTEP.out, HCN.out]
                  simp only [List.append_assoc]))
                have hlb : ls ≤ 420000000007 := by
                  have h1 := HBn.out.len
                  have h2 := flat_pre recB R (i + 1)
                  have h3 := HBR.out
                  have h4 := HZL.out
                  rw [List.length_append] at h1
                  omega
                clear hcp
                go_wp2_with fail
                go_roundw
                case rel => exact ⟨i + 1, ls, ad, cap, hlt, hlb, by go_num, rfl, HBn⟩
                case measure => simp [intOf]; omega
      · obtain rfl : rn = i := by omega
        have HBr : Hid (BufA w ad cap ln (Z1 ++ R.flatMap recB) ws) := Lib.hid (HB.out.to (by rw [List.take_of_length_le (by rw [HRN.out]; exact Nat.le_refl _)]))
        obtain ⟨-, -, c3⟩ := HC.out ws HB.out.kp
        go_wp2_with fail
        refine (little_any nn 4 ws (by omega) (by omega)).mono ?_
        rintro _ wl67 ⟨la68, lc69, rfl, ho, kp⟩
        have HB71 := Lib.hid (HBr.out.keep0 kp)
        have HL70 := Lib.hid ho
        clear ho kp
        clear c2 c3 hcp
        go_wp2_with (at_builtin; refine wpList_app rfl (.tmp 104) (.tmp 111) 46 46 rfl w.heap.size 5 .u8 1 Try.underlying46 infoU8 ad cap (ln) (Z1 ++ R.flatMap recB) HB71.out.len (le nn 4) _ 4 (by rw [le_length]) rfl rfl HB71.out.own (by have := src_rd HL70.out.rd Try.underlying46; rw [le_length] at this; exact this) (by omega) (by omega) HB71.out.kp.size ?_; intro ad73 cap74 wa75 ho kp _ _; have HB76 := Lib.hid (HB71.out.app ho kp (le_length _ _)); clear ho kp)
        obtain ⟨Z4, hZ4⟩ : ∃ Z, Z = Z1 ++ R.flatMap recB ++ le nn 4 := ⟨_, rfl⟩
        rw [← hZ4] at HB76
        have HZ4 := Lib.hid hZ4
        have HZ4L : Hid (Z4.length ≤ 420000000011) := Lib.hid (by
          have h1 := HBR.out
          have h2 := HZL.out
          rw [hZ4, List.length_append, List.length_append, le_length]
          omega)
        clear hZ4
        go_loopw [5, 10] (fun vo vi wr => ∃ (i ln : Nat) (ad : Option Addr) (cap : Nat), i ≤ nn ∧ ln ≤ 840000000011 ∧ vi = .int .i64 i ∧ vo = .slice ad ln cap ∧ Hid (BufA w ad cap ln (Z4 ++ (N.take i).flatMap nodeB) wr)) (fun _ vi _ => nn - (intOf vi).toNat)
        case atStart => exact ⟨0, _, _, _, Nat.zero_le _, by omega, rfl, rfl, Lib.hid (HB76.out.to (by simp))⟩
        case round =>
          obtain ⟨i, ln, ad, cap, hi, hln, rfl, rfl, HB⟩ := hrel
          obtain ⟨ws, rfl⟩ : ∃ ws : World, ws = wr := ⟨_, rfl⟩
          obtain ⟨-, -, c3⟩ := HC.out ws HB.out.kp
          have hcp := HB.out.cap'
          by_cases hlt : i < nn
          · obtain ⟨g, y, hna, hyN, hy1, hy2, hy3⟩ := HNODE.out i hlt
            subst hna
            obtain ⟨yd, yf, yt, ka, kn, kc, kids⟩ := y
            dsimp only at hy1 hy2
            obtain ⟨zd, hzd⟩ : ∃ z : Int, z = (yd : Int) := ⟨_, rfl⟩
            obtain ⟨zf, hzf⟩ : ∃ z : Int, z = (yf : Int) := ⟨_, rfl⟩
            obtain ⟨zt, hzt⟩ : ∃ z : Int, z = (yt : Int) := ⟨_, rfl⟩
            have hkk := (hy3 ws HB.out.kp).2
            have hkc : kn ≤ kc ∧ kc ≤ 9223372036854775807 := ⟨by rw [hy1]; exact hkk.1, hkk.2.1⟩
            have HRG : Hid (ws.rangeAt g (i * 4) [.int .i64 zd, .int .i64 zf, .int .i64 zt, .slice ka kn kc]) := Lib.hid (by rw [hzd, hzf, hzt]; exact (hy3 ws HB.out.kp).1)
            have HKD : Hid (∀ W, Kp [] w W → RdS kdcells 2 W ka kc kids) := Lib.hid (fun W hW => (hy3 W hW).2)
            have hknb : kn ≤ 100000000 := by rw [hy1]; exact hy2
            have HKL := Lib.hid hy1
            have hw8 : ∃ vb, IntKind.u8.wrap zd = vb ∧ le (Go.Proofs.Ythmaobmgogmaoaa.u64 (yd : Int)) 1 = [vb] := ⟨_, rfl, by rw [le_one, hzd]⟩
            obtain ⟨vb, hwb, hvb⟩ := hw8
            obtain ⟨nf, hnf⟩ : ∃ n, n = Go.Proofs.Ythmaobmgogmaoaa.u64 zf := ⟨_, rfl⟩
            obtain ⟨nt, hnt⟩ : ∃ n, n = Go.Proofs.Ythmaobmgogmaoaa.u64 zt := ⟨_, rfl⟩
            have hw1 : IntKind.u64.wrap zf = (nf : Int) := by rw [u64_wrap, hnf]
            have hw2 : IntKind.u64.wrap zt = (nt : Int) := by rw [u64_wrap, hnt]
            have hw3 : IntKind.u64.wrap (kn : Int) = (kn : Int) := by rw [u64_wrap, u64_nat (by omega)]
            have HNL : Hid (nf < 18446744073709551616 ∧ nt < 18446744073709551616) := Lib.hid ⟨by rw [hnf]; exact u64_lt _, by rw [hnt]; exact u64_lt _⟩
            have HSTEP : Hid ((N.take (i + 1)).flatMap nodeB = (N.take i).flatMap nodeB ++ ([vb] ++ le nf 4 ++ le nt 4 ++ le kn 4 ++ kids.flatMap kidB)) := Lib.hid (by
              rw [flat_step nodeB hyN, nodeB]
              simp only [pn]
              rw [hvb, ← hzf, ← hzt, hnf, hnt, ← hy1, u64_nat (by omega)])
            clear hyN hy1 hy2 hy3 hzd hzf hzt hvb hnf hnt hkk
            go_upto_region 23 with first
              | (refine wpList_load_mid rfl 40 _ rfl g (i * 4) rfl [.int .i64 zd, .int .i64 zf, .int .i64 zt, .slice ka kn kc] _ HRG.out Try.underlying40 rfl (by kernel_rfl) ?_)
              | (refine wpList_store_row rfl 40 _ _ rfl ws.heap.size #[.int .i64 zd, .int .i64 zf, .int .i64 zt, .slice ka kn kc] rfl rfl 40 _ (heap_alloc_at rfl) (by kernel_rfl) rfl (by simp [Value.oneCell']) ?_)
            obtain ⟨px, hpx⟩ : ∃ px, px = ws.heap.size := ⟨_, rfl⟩
            rw [← hpx]
            generalize hwq : (ws.alloc (Obj.cells #[.int .i64 0, .int .i64 0, .int .i64 0, .slice none 0 0] 40)).setRow px #[.int .i64 zd, .int .i64 zf, .int .i64 zt, .slice ka kn kc] = wq
            have HPX : Hid (wq.heap[px]? = some (.cells #[.int .i64 zd, .int .i64 zf, .int .i64 zt, .slice ka kn kc] 40)) := Lib.hid (by rw [← hwq]; exact setRow_heap _ px _ _ _ _ (heap_alloc_at hpx))
            have hkq : Kp [] ws wq := by rw [← hwq]; exact ((Kp.refl [] ws).alloc _).setRowF _ _ (.inr (by omega))
            have HBq := Lib.hid (HB.out.keep0 hkq)
            obtain ⟨Z5, hZ5⟩ : ∃ Z, Z = Z4 ++ (N.take i).flatMap nodeB := ⟨_, rfl⟩
            rw [← hZ5] at HBq
            have HZ5 := Lib.hid hZ5
            have HROW : Hid (∀ W, KeepU wq W → W.cell? ⟨px, 0, none⟩ = some (.int .i64 zd) ∧ W.cell? ⟨px, 1, none⟩ = some (.int .i64 zf) ∧ W.cell? ⟨px, 2, none⟩ = some (.int .i64 zt) ∧ W.cell? ⟨px, 3, none⟩ = some (.slice ka kn kc)) := Lib.hid (fun W hW => by
              have h1 := hW _ _ _ _ HPX.out (by decide)
              exact ⟨by rw [cell_of_row W px 0 _ _ _ h1]; rfl, by rw [cell_of_row W px 1 _ _ _ h1]; rfl, by rw [cell_of_row W px 2 _ _ _ h1]; rfl, by rw [cell_of_row W px 3 _ _ _ h1]; rfl⟩)
            obtain ⟨p0, -, -, -⟩ := HROW.out wq (KeepU.refl _)
            clear hwq hkq hpx hZ5 c3
            simp only [Act.put]
            go_wp2_with (at_builtin; refine wpList_app rfl (.tmp 129) (.tmp 133) 46 46 rfl w.heap.size 5 .u8 1 Try.underlying46 infoU8 ad cap ln Z5 HBq.out.len [vb] _ 1 rfl rfl rfl (HBq.out.own.alloc _) (src_one Try.underlying46 (World.cell?_alloc_at _ _ _ _ rfl)) (by omega) (by omega) (by have := HBq.out.kp.size; simp only [World.size_alloc]; omega) ?_; intro adz capz wz ho kp _ _; have HBz : Hid (BufA w adz capz (ln + 1) (Z5 ++ [vb]) wz) := Lib.hid ((HBq.out.keep0 ((Kp.refl [] wq).alloc _)).app ho kp rfl); have KUz : Hid (KeepU wq wz) := Lib.hid ((KeepU.of ((Kp.refl [] wq).alloc _)).trans (KeepU.app (HBq.out.own.alloc _) kp)); clear ho kp; obtain ⟨-, p1, -, -⟩ := HROW.out wz KUz.out; have hcp2 := HBz.out.cap')
            refine (little_any nf 4 wz HNL.out.1 (by omega)).mono ?_
            rintro _ wl78 ⟨la79, lc80, rfl, ho, kp⟩
            have HB82 := Lib.hid (HBz.out.keep0 kp)
            have HL81 := Lib.hid ho
            have KU83 := Lib.hid (KUz.out.trans (KeepU.of kp))
            clear ho kp
            clear p0 p1 hw1 hcp hcp2 hwb
            go_wp2_with (at_builtin; refine wpList_app rfl (.tmp 135) (.tmp 139) 46 46 rfl w.heap.size 5 .u8 1 Try.underlying46 infoU8 adz capz (ln + 1) (Z5 ++ [vb]) HB82.out.len (le nf 4) _ 4 (by rw [le_length]) rfl rfl HB82.out.own (by have := src_rd HL81.out.rd Try.underlying46; rw [le_length] at this; exact this) (by omega) (by omega) HB82.out.kp.size ?_; intro ad84 cap85 wa86 ho kp _ _; have HB87 := Lib.hid (HB82.out.app ho kp (le_length _ _)); have KU88 := Lib.hid (KU83.out.trans (KeepU.app HB82.out.own kp)); clear ho kp; obtain ⟨-, -, p2, -⟩ := HROW.out wa86 KU88.out; have hcp := HB87.out.cap')
            refine (little_any nt 4 wa86 HNL.out.2 (by omega)).mono ?_
            rintro _ wl89 ⟨la90, lc91, rfl, ho, kp⟩
            have HB93 := Lib.hid (HB87.out.keep0 kp)
            have HL92 := Lib.hid ho
            have KU94 := Lib.hid (KU88.out.trans (KeepU.of kp))
            clear ho kp
            clear p2 hw2 hcp
            go_wp2_with (at_builtin; refine wpList_app rfl (.tmp 141) (.tmp 145) 46 46 rfl w.heap.size 5 .u8 1 Try.underlying46 infoU8 ad84 cap85 (ln + 1 + 4) (Z5 ++ [vb] ++ le nf 4) HB93.out.len (le nt 4) _ 4 (by rw [le_length]) rfl rfl HB93.out.own (by have := src_rd HL92.out.rd Try.underlying46; rw [le_length] at this; exact this) (by omega) (by omega) HB93.out.kp.size ?_; intro ad95 cap96 wa97 ho kp _ _; have HB98 := Lib.hid (HB93.out.app ho kp (le_length _ _)); have KU99 := Lib.hid (KU94.out.trans (KeepU.app HB93.out.own kp)); clear ho kp; obtain ⟨-, -, -, p3⟩ := HROW.out wa97 KU99.out; have hcp := HB98.out.cap')
            refine (little_any kn 4 wa97 (by omega) (by omega)).mono ?_
            rintro _ wl100 ⟨la101, lc102, rfl, ho, kp⟩
            have HB104 := Lib.hid (HB98.out.keep0 kp)
            have HL103 := Lib.hid ho
            have KU105 := Lib.hid (KU99.out.trans (KeepU.of kp))
            clear ho kp
            clear p3 hw3 hcp
            go_wp2_with (at_builtin; refine wpList_app rfl (.tmp 147) (.tmp 152) 46 46 rfl w.heap.size 5 .u8 1 Try.underlying46 infoU8 ad95 cap96 (ln + 1 + 4 + 4) (Z5 ++ [vb] ++ le nf 4 ++ le nt 4) HB104.out.len (le kn 4) _ 4 (by rw [le_length]) rfl rfl HB104.out.own (by have := src_rd HL103.out.rd Try.underlying46; rw [le_length] at this; exact this) (by omega) (by omega) HB104.out.kp.size ?_; intro ad106 cap107 wa108 ho kp _ _; have HB109 := Lib.hid (HB104.out.app ho kp (le_length _ _)); have KU110 := Lib.hid (KU105.out.trans (KeepU.app HB104.out.own kp)); clear ho kp)
            obtain ⟨Z6, hZ6⟩ : ∃ Z, Z = Z5 ++ [vb] ++ le nf 4 ++ le nt 4 ++ le kn 4 := ⟨_, rfl⟩
            rw [← hZ6] at HB109
            have HZ6 := Lib.hid hZ6
            clear hZ6
            go_loopw [5, 12] (fun vo vj wr => ∃ (s ls : Nat) (ad : Option Addr) (cap : Nat), s ≤ kn ∧ ls ≤ ln + 13 + 8 * s ∧ vj = .int .i64 s ∧ vo = .slice ad ls cap ∧ Hid (BufA w ad cap ls (Z6 ++ (kids.take s).flatMap kidB) wr) ∧ Hid (KeepU wq wr)) (fun _ vj _ => kn - (intOf vj).toNat)
            case atStart => exact ⟨0, _, _, _, Nat.zero_le _, by omega, rfl, rfl, Lib.hid (HB109.out.to (by simp)), KU110⟩
            case round =>
              obtain ⟨s, ls, ad, cap, hs, hls, rfl, rfl, HBs, KUs⟩ := hrel
              obtain ⟨wu, rfl⟩ : ∃ wu : World, wu = wr := ⟨_, rfl⟩
              obtain ⟨-, -, -, p3⟩ := HROW.out wu KUs.out
              have hcp := HBs.out.cap'
              by_cases hlts : s < kn
              · have hsk : s < kids.length := by rw [← HKL.out]; exact hlts
                obtain ⟨b1, o1, hka, q1, -⟩ := kids_at (HKD.out wu HBs.out.kp) hsk
                subst hka
                have HQ : Hid (∀ W, Kp [] w W → W.cell? ⟨b1, o1 + s * 2 + 1, none⟩ = some (.int .i64 ((kids[s].2 : Nat) : Int))) := Lib.hid (fun W hW => by
                  obtain ⟨b1', o1', h1', -, q2⟩ := kids_at (HKD.out W hW) hsk
                  cases h1'
                  exact q2)
                have HSS : Hid ((kids.take (s + 1)).flatMap kidB = (kids.take s).flatMap kidB ++ kidB kids[s]) := Lib.hid (flat_step kidB (List.getElem?_eq_getElem hsk))
                generalize kids[s] = kd at q1 HQ HSS
                obtain ⟨yi, yn⟩ := kd
                dsimp only at q1 HQ HSS
                obtain ⟨v, hv⟩ : ∃ v, v = IntKind.i64.wrap (yi + 1) := ⟨_, rfl⟩
                obtain ⟨n1, hn1⟩ : ∃ n, n = Go.Proofs.Ythmaobmgogmaoaa.u64 v := ⟨_, rfl⟩
                obtain ⟨zn, hzn⟩ : ∃ z : Int, z = (yn : Int) := ⟨_, rfl⟩
                obtain ⟨n2, hn2⟩ : ∃ n, n = Go.Proofs.Ythmaobmgogmaoaa.u64 zn := ⟨_, rfl⟩
                rw [← hzn] at HQ
                have hw1 : IntKind.i64.wrap (yi + 1) = v := hv.symm
                have hw2 : IntKind.u64.wrap v = (n1 : Int) := by rw [u64_wrap, hn1]
                have hw3 : IntKind.u64.wrap zn = (n2 : Int) := by rw [u64_wrap, hn2]
                have HNK : Hid (n1 < 18446744073709551616 ∧ n2 < 18446744073709551616) := Lib.hid ⟨by rw [hn1]; exact u64_lt _, by rw [hn2]; exact u64_lt _⟩
                have HKB : Hid (kidB (yi, yn) = le n1 4 ++ le n2 4) := Lib.hid (by rw [kidB, hn1, hv, u64_i64, hn2, hzn])
                clear hv hn1 hzn hn2 hsk
                go_wp2_with fail
                refine (little_any n1 4 wu HNK.out.1 (by omega)).mono ?_
                rintro _ wl111 ⟨la112, lc113, rfl, ho, kp⟩
                have HB115 := Lib.hid (HBs.out.keep0 kp)
                have HL114 := Lib.hid ho
                have KU116 := Lib.hid (KUs.out.trans (KeepU.of kp))
                clear ho kp
                clear p3 q1 hw1 hw2 hcp
                go_wp2_with (at_builtin; refine wpList_app rfl (.tmp 161) (.tmp 170) 46 46 rfl w.heap.size 5 .u8 1 Try.underlying46 infoU8 ad cap (ls) (Z6 ++ (kids.take s).flatMap kidB) HB115.out.len (le n1 4) _ 4 (by rw [le_length]) rfl rfl HB115.out.own (by have := src_rd HL114.out.rd Try.underlying46; rw [le_length] at this; exact this) (by omega) (by omega) HB115.out.kp.size ?_; intro ad117 cap118 wa119 ho kp _ _; have HB120 := Lib.hid (HB115.out.app ho kp (le_length _ _)); have KU121 := Lib.hid (KU116.out.trans (KeepU.app HB115.out.own kp)); clear ho kp; obtain ⟨-, -, -, p3⟩ := HROW.out wa119 KU121.out; have q2 := HQ.out wa119 HB120.out.kp; have hcp := HB120.out.cap')
                refine (little_any n2 4 wa119 HNK.out.2 (by omega)).mono ?_
                rintro _ wl122 ⟨la123, lc124, rfl, ho, kp⟩
                have HB126 := Lib.hid (HB120.out.keep0 kp)
                have HL125 := Lib.hid ho
                have KU127 := Lib.hid (KU121.out.trans (KeepU.of kp))
                clear ho kp
                clear p3 q2 hw3 hcp
                go_wp2_with (at_builtin; refine wpList_app rfl (.tmp 172) (.tmp 180) 46 46 rfl w.heap.size 5 .u8 1 Try.underlying46 infoU8 ad117 cap118 (ls + 4) (Z6 ++ (kids.take s).flatMap kidB ++ le n1 4) HB126.out.len (le n2 4) _ 4 (by rw [le_length]) rfl rfl HB126.out.own (by have := src_rd HL125.out.rd Try.underlying46; rw [le_length] at this; exact this) (by omega) (by omega) HB126.out.kp.size ?_; intro ad128 cap129 wa130 ho kp _ _; have HB131 := Lib.hid (HB126.out.app ho kp (le_length _ _)); have KU132 := Lib.hid (KU127.out.trans (KeepU.app HB126.out.own kp)); clear ho kp)
                go_roundw
                case rel => exact ⟨s + 1, _, _, _, hlts, by omega, by go_num, rfl, Lib.hid (HB131.out.to (by rw [HSS.out, HKB.out]; simp only [List.append_assoc])), KU132⟩
                case measure => simp [intOf]; omega
              · obtain rfl : kn = s := by omega
                have HBn : Hid (BufA w ad cap ls (Z4 ++ (N.take (i + 1)).flatMap nodeB) wu) := Lib.hid (HBs.out.to (by
                  rw [List.take_of_length_le (by rw [← HKL.out]; exact Nat.le_refl _), HZ6.out, HZ5.out, HSTEP.out]
                  simp only [List.append_assoc]))
                have hlb : ls ≤ 840000000011 := by
                  have h1 := HBn.out.len
                  have h2 := flat_pre nodeB N (i + 1)
                  have h3 := HBN.out
                  have h4 := HZ4L.out
                  rw [List.length_append] at h1
                  omega
                clear hcp
                go_wp2_with fail
                go_roundw
                case rel => exact ⟨i + 1, ls, ad, cap, hlt, hlb, by go_num, rfl, HBn⟩
                case measure => simp [intOf]; omega
          · obtain rfl : nn = i := by omega
            have HBe : Hid (BufA w ad cap ln (treeB k mt R N) ws) := Lib.hid (HB.out.to (by
              rw [List.take_of_length_le (by rw [HNN.out]; exact Nat.le_refl _), HZ4.out, HZ1.out, treeB, HNN.out, u64_nat (by omega)]))
            go_wp2_with fail
            go_ret
            exact ⟨ad, cap, by rw [← HBe.out.len]; rfl, HBe.out.own, HBe.out.kp⟩
end Go.Proofs.Ythmaobmgogmaoaa
