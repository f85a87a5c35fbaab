/-
  Schema: what is read.
-/
import Derived.Test.YtegnobdablbahaaSchJ
import Derived.Test.YtegnobdablbahaaSchE
namespace Go.Proofs.Ytegnobdablbahaa
open Go.RowKit
set_option linter.unusedSimpArgs false
set_option linter.unusedVariables false

/-- What is told of bytes read. -/
def ToldR (zs : List Int) (w : World) (e : Ending) (w' : World) : Prop :=
  ∃ (l : List Col) (d : Cfg) (ad : Option Addr) (cap : Nat), e = .returned (.tuple #[.slice ad l.length cap, cfgV d, .int .i64 (rdX zs).1]) ∧ l = (rdX zs).2.1 ∧ OwnS ccells 2 w' w.heap.size 38 ad cap l ∧ OwnCfg w' w.heap.size d ∧ COk l ∧ (∀ c, (rdX zs).2.2 = some c → alike c d) ∧ Kp [] w w'
theorem ToldR.no {zs : List Int} {w w' : World} {z : Int} (h : rdX zs = (z, [], none)) (k : Kp [] w w') : ToldR zs w (.returned (.tuple #[.slice none 0 0, .agg #[.int .i64 0, .slice none 0 0, .slice none 0 0, .slice none 0 0, .int .i64 0], .int .i64 z])) w' :=
  ⟨[], ⟨0, none, 0, [], none, 0, [], none, 0, [], 0⟩, none, 0, by rw [h]; rfl, by rw [h], OwnS.nil _ _ _ _ _, ⟨OwnS.nil _ _ _ _ _, OwnS.nil _ _ _ _ _, Own.nil _ _ _ _⟩, (fun x hx => by simp at hx), (fun c hc => by rw [h] at hc; cases hc), k⟩
theorem results_c3 {P : Program} {fn : Func} {p q r : Tmp} {ty : TypeId} (h : fn.results = #[.tmp r, .cell p ty, .tmp q]) (tmps : Array Value) (w : World) (g : Nat) (t : TypeId) (cs : Array Value) (fr : Nat × Nat) (d : TypeDesc)
    (hp : tmps.getD p undef = .pointer (some ⟨g, 0, none⟩)) (hg : w.heap[g]? = some (.cells cs t fr))
    (hu : P.underlying ty = some d) (hd : (match d with | .struct _ | .array _ _ => true | _ => false) = true) (hi : (P.info? ty).map (·.size) = some cs.size) :
    (results fn tmps).run P w = .ok (.tuple #[tmps.getD r undef, .agg cs, tmps.getD q undef]) w := by
  have hp' : tmps[p]?.getD undef = .pointer (some ⟨g, 0, none⟩) := by simpa using hp
  simp [results, h, hp', asAddr, run_loadVar_row w g t ty cs fr d hg hu hd hi]
theorem colsF_len (zs : List Int) : ∀ (k a : Nat) (b : Bool) (acc l : List Col) (a' : Nat) (b' : Bool), colsF zs k a b acc = some (l, a', b') → l.length = acc.length + k
  | 0, a, b, acc, l, a', b', h => by
    simp only [colsF, Option.some.injEq, Prod.mk.injEq] at h
    rw [← h.1]; rfl
  | k + 1, a, b, acc, l, a', b', h => by
    rw [colsF] at h
    split at h
    · cases h
    · split at h
      · cases h
      · have := colsF_len zs k _ _ _ l a' b' h
        rw [this, List.length_append]; simp; omega
theorem colsR_len {zs : List Int} {l : List Col} {a : Nat} {b : Bool} (h : colsR zs = some (l, a, b)) : l.length ≤ 256 := by
  rw [colsR] at h
  split at h
  · cases h
  · have := colsF_len _ _ _ _ _ _ _ _ h; simp at this; omega
theorem alike_fits {l : List Col} {c d : Cfg} (h : alike c d) : fitsC l d = fitsC l c := by
  obtain ⟨h1, h2, h3, h4, h5⟩ := h
  simp only [fitsC, tailC, h1, h2, h3, h4, h5]
theorem OwnCfg.rd {w : World} {base : Nat} {d : Cfg} (h : OwnCfg w base d) : RdCfg w d := ⟨h.1.rd blies, h.2.1.rd blies, h.2.2.rd⟩
theorem OwnCfg.keep0 {w w' : World} {base : Nat} {d : Cfg} (h : OwnCfg w base d) (k : Kp [] w w') : OwnCfg w' base d := ⟨h.1.keep0 k, h.2.1.keep0 k, h.2.2.keep0 k⟩
theorem OwnCfg.mono {w : World} {base b' : Nat} {d : Cfg} (h : OwnCfg w base d) (k : b' ≤ base) : OwnCfg w b' d := ⟨h.1.mono k, h.2.1.mono k, h.2.2.mono k⟩
theorem OwnCfg.keep {w w' : World} {base : Nat} {d : Cfg} {S : List Nat} (h : OwnCfg w base d) (k : Kp S w w') (hS : ∀ x ∈ S, x < base) : OwnCfg w' base d :=
  ⟨h.1.keep k (fun y hy hx => by have := (h.1.ob_ge y hy).1; have := hS y hx; omega), h.2.1.keep k (fun y hy hx => by have := (h.2.1.ob_ge y hy).1; have := hS y hx; omega), h.2.2.keep k (fun y hy hx => by have := (h.2.2.ob_ge y hy).1; have := hS y hx; omega)⟩

set_option maxHeartbeats 3200000 in
set_option maxRecDepth 100000 in
theorem sRead_any (ad : Option Addr) (cap n : Nat) (zs : List Int) (hn : n = zs.length) (w : World) (hr : Rd w .u8 ad cap zs) (hb : Bytes8 zs) (hl : n ≤ 1000000000) :
    Calls Try.prog 29 #[.slice ad n cap] w fun e w' => ToldR zs w e w' := by
  have HR := Lib.hid hr
  have HN := Lib.hid hn
  have HB := Lib.hid hb
  clear hr hn hb
  go_enter Try.func29, Try.ntmps29
  go_upto_region 1 with (fail)
  generalize hw2 : w.alloc _ = w2
  have Z2 : w2.heap[w.heap.size]? = some (.cells #[.int .i64 0, .slice none 0 0, .slice none 0 0, .slice none 0 0, .int .i64 0] 26) := by rw [← hw2]; exact heap_alloc_at rfl
  have HK2 := Lib.hid (show Kp [] w w2 by rw [← hw2]; exact (Kp.refl [] w).alloc _)
  have hq2 : w.heap.size < w2.heap.size := lt_of_heap Z2
  obtain ⟨q0, hq⟩ : ∃ q, q = w.heap.size := ⟨_, rfl⟩
  rw [← hq] at Z2 hq2 ⊢
  have HQ := Lib.hid hq
  clear hw2 hq
  go_wp2_with fail
  refine (cnew_any ad cap n zs HN.out w2 (HR.out.keep0 HK2.out) (by omega)).mono ?_
  rintro e w3 ⟨p, rfl, hp0, hp3, kp3⟩
  have hpq : q0 < p := by omega
  have Z3 := kp3.get Z2 (by simp)
  have HK3 := Lib.hid (HK2.out.tr kp3)
  have HP3 := Lib.hid hp3
  have hpL := hp3.lt
  clear kp3 Z2 hp3
  go_wp2_with fail
  refine (scolumns_any w3.heap.size p zs w3 HP3.out HB.out (Nat.le_refl _)).mono ?_
  rintro e w4 (⟨hc, ⟨a4, b4, hp4⟩, rfl, kp4⟩ | ⟨l, a4, b4, ad4, cap4, hc, rfl, ho4, hp4, hok, kp4⟩)
  · have HZ4 := Lib.hid (kp4.get Z3 (by simp; omega))
    have HK4 := Lib.hid (show Kp [] w w4 from HK3.out.trans kp4 (by simp) (fun y hy => .inr (by simp at hy; have := HQ.out; omega)))
    have HCN := Lib.hid hc
    clear kp4 Z3 hc
    go_upto_region 6 with (fail)
    generalize hw5 : w4.alloc _ = w5
    have HZ5 : Hid (w5.heap[q0]? = some (.cells #[.int .i64 0, .slice none 0 0, .slice none 0 0, .slice none 0 0, .int .i64 0] 26)) := Lib.hid (by rw [← hw5]; exact cells_alloc HZ4.out)
    have HK5 := Lib.hid (show Kp [] w w5 by rw [← hw5]; exact HK4.out.alloc _)
    clear hw5
    go_wp2_with (refine wpList_store_row rfl 26 _ _ rfl q0 #[.int .i64 0, .slice none 0 0, .slice none 0 0, .slice none 0 0, .int .i64 0] rfl rfl 26 _ HZ5.out (by kernel_rfl) rfl (by simp [Value.oneCell']) ?_)
    refine bodyPost_ret (v := .tuple #[.slice none 0 0, .agg #[.int .i64 0, .slice none 0 0, .slice none 0 0, .slice none 0 0, .int .i64 0], .int .i64 5]) (results_c3 Try.results29 _ _ q0 26 #[.int .i64 0, .slice none 0 0, .slice none 0 0, .slice none 0 0, .int .i64 0] (0, 0) _ rfl (setRow_heap _ q0 _ _ _ _ HZ5.out) Try.underlying26 rfl (by kernel_rfl)) rfl (ToldR.no (by rw [rdX, HCN.out]) (HK5.out.setRow2 _ _ (.inr (by have := HQ.out; omega))))
  · have Z4 := kp4.get Z3 (by simp; omega)
    have HK4 := Lib.hid (show Kp [] w w4 from HK3.out.trans kp4 (by simp) (fun y hy => .inr (by simp at hy; have := HQ.out; omega)))
    have HCS := Lib.hid hc
    have hll := colsR_len hc
    have HO4 := Lib.hid ho4
    have HP4 := Lib.hid hp4
    have HOK := Lib.hid hok
    have h34 := kp4.size
    obtain ⟨m, hm⟩ : ∃ m, m = l.length := ⟨_, rfl⟩
    rw [← hm] at hll ⊢
    have HM := Lib.hid hm
    clear kp4 Z3 hc ho4 hp4 hok hm
    go_upto_region 5 with (fail)
    generalize hw5 : w4.alloc _ = w5
    have Z5 : w5.heap[q0]? = some (.cells #[.int .i64 0, .slice none 0 0, .slice none 0 0, .slice none 0 0, .int .i64 0] 26) := by rw [← hw5]; exact cells_alloc Z4
    have Y5 : w5.heap[w4.heap.size]? = some (.cells #[.int .i64 0, .slice none 0 0, .slice none 0 0, .slice none 0 0, .int .i64 0] 26) := by rw [← hw5]; exact heap_alloc_at rfl
    have KX5 : Kp [] w4 w5 := by rw [← hw5]; exact (Kp.refl [] w4).alloc _
    have HK5 := Lib.hid (HK4.out.tr KX5)
    have HO5 := Lib.hid (HO4.out.keep0 KX5)
    have HP5 := Lib.hid (HP4.out.keep KX5)
    obtain ⟨q1, hq1⟩ : ∃ q, q = w4.heap.size := ⟨_, rfl⟩
    rw [← hq1] at Y5 ⊢
    have h5 := lt_of_heap Y5
    have h13 : w3.heap.size ≤ q1 := by omega
    have HQ1 := Lib.hid hq1
    clear hq1 hw5 KX5 Z4
    go_wp2_with fail
    refine (sconfig_any w3.heap.size p m a4 b4 zs w5 HP5.out HB.out (by omega) hll).mono ?_
    rintro e w6 (⟨hc, ⟨a6, b6, hp6⟩, ⟨d, rfl⟩, kp6⟩ | ⟨c, d, a6, b6, hc, rfl, hal, hoc, hp6, kp6⟩)
    · have HZ6 := Lib.hid (kp6.get Z5 (by simp; omega))
      have HY6 := Lib.hid (kp6.get Y5 (by simp; omega))
      have HK6 := Lib.hid (show Kp [] w w6 from HK5.out.trans kp6 (by simp) (fun y hy => .inr (by simp at hy; have := HQ.out; omega)))
      have HCN := Lib.hid hc
      clear kp6 Z5 Y5 hc
      obtain ⟨ni, hni⟩ : ∃ ni, ni = d.inv.length := ⟨_, rfl⟩
      obtain ⟨nr, hnr⟩ : ∃ nr, nr = d.rng.length := ⟨_, rfl⟩
      obtain ⟨ns, hns⟩ : ∃ ns, ns = d.spl.length := ⟨_, rfl⟩
      have HVL : Hid (cfgV d = .agg #[.int .i64 d.srt, .slice d.ia ni d.ic, .slice d.ra nr d.rc, .slice d.sa ns d.sc, .int .i64 d.leaf]) := Lib.hid (by rw [hni, hnr, hns]; rfl)
      have HNI := Lib.hid hni
      have HNR := Lib.hid hnr
      have HNS := Lib.hid hns
      clear hni hnr hns
      rw [HVL.out]
      go_upto_region 6 with (first | (refine wpList_store_row rfl 26 _ _ rfl q1 #[.int .i64 d.srt, .slice d.ia ni d.ic, .slice d.ra nr d.rc, .slice d.sa ns d.sc, .int .i64 d.leaf] rfl rfl 26 _ HY6.out (by kernel_rfl) rfl (by simp [Value.oneCell']) ?_))
      generalize hw7 : w6.setRow _ _ = w7
      have KX7 : Kp [q1] w6 w7 := by rw [← hw7]; exact (Kp.refl [q1] w6).setRow2 _ _ (.inl (by simp))
      have HZ7 := Lib.hid (KX7.get HZ6.out (by simp; omega))
      have HY7 : Hid (w7.heap[q1]? = some (.cells #[.int .i64 d.srt, .slice d.ia ni d.ic, .slice d.ra nr d.rc, .slice d.sa ns d.sc, .int .i64 d.leaf] 26)) := Lib.hid (by rw [← hw7]; exact setRow_heap _ q1 _ _ _ _ HY6.out)
      have HK7 := Lib.hid (show Kp [] w w7 from HK6.out.trans KX7 (by simp) (fun y hy => .inr (by simp at hy; have := HQ.out; omega)))
      clear hw7 KX7
      go_wp2_with (refine wpList_store_row rfl 26 _ _ rfl q0 #[.int .i64 0, .slice none 0 0, .slice none 0 0, .slice none 0 0, .int .i64 0] rfl rfl 26 _ HZ7.out (by kernel_rfl) rfl (by simp [Value.oneCell']) ?_)
      refine bodyPost_ret (v := .tuple #[.slice none 0 0, .agg #[.int .i64 0, .slice none 0 0, .slice none 0 0, .slice none 0 0, .int .i64 0], .int .i64 5]) (results_c3 Try.results29 _ _ q0 26 #[.int .i64 0, .slice none 0 0, .slice none 0 0, .slice none 0 0, .int .i64 0] (0, 0) _ rfl (setRow_heap _ q0 _ _ _ _ HZ7.out) Try.underlying26 rfl (by kernel_rfl)) rfl (ToldR.no (by rw [rdX, HCS.out]; show endR zs l (cfgF zs l.length a4 b4) = _; rw [← HM.out, HCN.out]; rfl) (HK7.out.setRow2 _ _ (.inr (by have := HQ.out; omega))))
    · have HZ6 := Lib.hid (kp6.get Z5 (by simp; omega))
      have HY6 := Lib.hid (kp6.get Y5 (by simp; omega))
      have HK6 := Lib.hid (show Kp [] w w6 from HK5.out.trans kp6 (by simp) (fun y hy => .inr (by simp at hy; have := HQ.out; omega)))
      have HRX : Hid (rdX zs = endR zs l (some (c, a6, b6))) := Lib.hid (by rw [rdX, HCS.out]; show endR zs l (cfgF zs l.length a4 b4) = _; rw [← HM.out, hc])
      have HO6 := Lib.hid (HO5.out.keep kp6 (fun y hy hx => by have := (HO5.out.ob_ge y hy).1; simp at hx; omega))
      have HP6 := Lib.hid hp6
      have HOC := Lib.hid hoc
      have HAL := Lib.hid hal
      have hq1s := lt_of_heap HY6.out
      clear kp6 Z5 Y5 hc hp6 hoc hal
      obtain ⟨ni, hni⟩ : ∃ ni, ni = d.inv.length := ⟨_, rfl⟩
      obtain ⟨nr, hnr⟩ : ∃ nr, nr = d.rng.length := ⟨_, rfl⟩
      obtain ⟨ns, hns⟩ : ∃ ns, ns = d.spl.length := ⟨_, rfl⟩
      have HVL : Hid (cfgV d = .agg #[.int .i64 d.srt, .slice d.ia ni d.ic, .slice d.ra nr d.rc, .slice d.sa ns d.sc, .int .i64 d.leaf]) := Lib.hid (by rw [hni, hnr, hns]; rfl)
      have HNI := Lib.hid hni
      have HNR := Lib.hid hnr
      have HNS := Lib.hid hns
      clear hni hnr hns
      rw [HVL.out]
      go_upto_region 6 with (first | (refine wpList_store_row rfl 26 _ _ rfl q1 #[.int .i64 d.srt, .slice d.ia ni d.ic, .slice d.ra nr d.rc, .slice d.sa ns d.sc, .int .i64 d.leaf] rfl rfl 26 _ HY6.out (by kernel_rfl) rfl (by simp [Value.oneCell']) ?_))
      generalize hw7 : w6.setRow _ _ = w7
      have KX7 : Kp [q1] w6 w7 := by rw [← hw7]; exact (Kp.refl [q1] w6).setRow2 _ _ (.inl (by simp))
      have HZ7 := Lib.hid (KX7.get HZ6.out (by simp; omega))
      have HY7 : Hid (w7.heap[q1]? = some (.cells #[.int .i64 d.srt, .slice d.ia ni d.ic, .slice d.ra nr d.rc, .slice d.sa ns d.sc, .int .i64 d.leaf] 26)) := Lib.hid (by rw [← hw7]; exact setRow_heap _ q1 _ _ _ _ HY6.out)
      have HK7 := Lib.hid (show Kp [] w w7 from HK6.out.trans KX7 (by simp) (fun y hy => .inr (by simp at hy; have := HQ.out; omega)))
      have HO7 := Lib.hid (HO6.out.keep KX7 (fun y hy hx => by have := (HO4.out.ob_ge y hy).2; simp at hx; have := HQ1.out; omega))
      have HOC7 := Lib.hid (HOC.out.keep KX7 (fun y hy => by simp at hy; omega))
      have HP7 := Lib.hid (HP6.out.keepS KX7 (fun y hy => by simp at hy; omega))
      clear hw7 KX7
      go_wp2_with fail
      refine (cbad_any p zs a6 b6 w7 HP7.out).mono ?_
      rintro e w8 ⟨rfl, h8⟩
      subst w8
      cases b6 with
      | true =>
        go_wp2_with (refine wpList_store_row rfl 26 _ _ rfl q0 #[.int .i64 0, .slice none 0 0, .slice none 0 0, .slice none 0 0, .int .i64 0] rfl rfl 26 _ HZ7.out (by kernel_rfl) rfl (by simp [Value.oneCell']) ?_)
        refine bodyPost_ret (v := .tuple #[.slice none 0 0, .agg #[.int .i64 0, .slice none 0 0, .slice none 0 0, .slice none 0 0, .int .i64 0], .int .i64 4]) (results_c3 Try.results29 _ _ q0 26 #[.int .i64 0, .slice none 0 0, .slice none 0 0, .slice none 0 0, .int .i64 0] (0, 0) _ rfl (setRow_heap _ q0 _ _ _ _ HZ7.out) Try.underlying26 rfl (by kernel_rfl)) rfl (ToldR.no (by rw [HRX.out, endR, if_pos rfl]) (HK7.out.setRow2 _ _ (.inr (by have := HQ.out; omega))))
      | false =>
        go_wp2_with fail
        refine (cleft_ok p zs a6 w7 HP7.out).mono ?_
        rintro e w8 ⟨rfl, kp8⟩
        have HZ8 := Lib.hid (kp8.get HZ7.out (by simp))
        have y8 := kp8.get HY7.out (by simp)
        have HY8 := Lib.hid y8
        have HK8 := Lib.hid (HK7.out.tr kp8)
        have HO8 := Lib.hid (HO7.out.keep0 kp8)
        have HOC8 := Lib.hid (HOC7.out.keep0 kp8)
        clear kp8
        obtain ⟨left, hleft⟩ : ∃ v, v = zs.length - a6 := ⟨_, rfl⟩
        rw [← hleft]
        have HLF := Lib.hid hleft
        clear hleft
        by_cases hl0 : (0 : Int) < (left : Int)
        · clear y8
          go_wp2_with (refine wpList_store_row rfl 26 _ _ rfl q0 #[.int .i64 0, .slice none 0 0, .slice none 0 0, .slice none 0 0, .int .i64 0] rfl rfl 26 _ HZ8.out (by kernel_rfl) rfl (by simp [Value.oneCell']) ?_)
          refine bodyPost_ret (v := .tuple #[.slice none 0 0, .agg #[.int .i64 0, .slice none 0 0, .slice none 0 0, .slice none 0 0, .int .i64 0], .int .i64 5]) (results_c3 Try.results29 _ _ q0 26 #[.int .i64 0, .slice none 0 0, .slice none 0 0, .slice none 0 0, .int .i64 0] (0, 0) _ rfl (setRow_heap _ q0 _ _ _ _ HZ8.out) Try.underlying26 rfl (by kernel_rfl)) rfl (ToldR.no (by rw [HRX.out, endR, if_neg (by simp), if_pos (.inl (by have := HLF.out; omega))]) (HK8.out.setRow2 _ _ (.inr (by have := HQ.out; omega))))
        · have e0 : w8.cell? ⟨q1, 0, none⟩ = some (.int .i64 d.srt) := cell_of_row w8 q1 0 _ _ _ y8
          have e1 : w8.cell? ⟨q1, 1, none⟩ = some (.slice d.ia ni d.ic) := cell_of_row w8 q1 1 _ _ _ y8
          have e2 : w8.cell? ⟨q1, 2, none⟩ = some (.slice d.ra nr d.rc) := cell_of_row w8 q1 2 _ _ _ y8
          have e3 : w8.cell? ⟨q1, 3, none⟩ = some (.slice d.sa ns d.sc) := cell_of_row w8 q1 3 _ _ _ y8
          have e4 : w8.cell? ⟨q1, 4, none⟩ = some (.int .i64 d.leaf) := cell_of_row w8 q1 4 _ _ _ y8
          have HNL : Hid (¬ a6 < zs.length) := Lib.hid (by have := HLF.out; omega)
          clear y8
          go_wp2_with fail
          refine (sfits_w HVL.out HM.out (HO8.out.rd clies) HOK.out HOC8.out.rd).mono ?_
          rintro e w9 ⟨rfl, kp9⟩
          rw [alike_fits HAL.out]
          have HZ9 := Lib.hid (kp9.get HZ8.out (by simp))
          have y9 := kp9.get HY8.out (by simp)
          have HY9 := Lib.hid y9
          have HK9 := Lib.hid (HK8.out.tr kp9)
          have HO9 := Lib.hid (HO8.out.keep0 kp9)
          have HOC9 := Lib.hid (HOC8.out.keep0 kp9)
          clear kp9 e0 e1 e2 e3 e4
          cases hf : fitsC l c with
          | false =>
            have HFF := Lib.hid hf
            clear hf y9
            go_wp2_with (refine wpList_store_row rfl 26 _ _ rfl q0 #[.int .i64 0, .slice none 0 0, .slice none 0 0, .slice none 0 0, .int .i64 0] rfl rfl 26 _ HZ9.out (by kernel_rfl) rfl (by simp [Value.oneCell']) ?_)
            refine bodyPost_ret (v := .tuple #[.slice none 0 0, .agg #[.int .i64 0, .slice none 0 0, .slice none 0 0, .slice none 0 0, .int .i64 0], .int .i64 5]) (results_c3 Try.results29 _ _ q0 26 #[.int .i64 0, .slice none 0 0, .slice none 0 0, .slice none 0 0, .int .i64 0] (0, 0) _ rfl (setRow_heap _ q0 _ _ _ _ HZ9.out) Try.underlying26 rfl (by kernel_rfl)) rfl (ToldR.no (by rw [HRX.out, endR, if_neg (by simp), if_pos (.inr HFF.out)]) (HK9.out.setRow2 _ _ (.inr (by have := HQ.out; omega))))
          | true =>
            have HG0 : Hid (w9.cell? ⟨q1, 0, none⟩ = some (.int .i64 d.srt)) := Lib.hid (cell_of_row w9 q1 0 _ _ _ y9)
            have HG1 : Hid (w9.cell? ⟨q1, 1, none⟩ = some (.slice d.ia ni d.ic)) := Lib.hid (cell_of_row w9 q1 1 _ _ _ y9)
            have HG2 : Hid (w9.cell? ⟨q1, 2, none⟩ = some (.slice d.ra nr d.rc)) := Lib.hid (cell_of_row w9 q1 2 _ _ _ y9)
            have HG3 : Hid (w9.cell? ⟨q1, 3, none⟩ = some (.slice d.sa ns d.sc)) := Lib.hid (cell_of_row w9 q1 3 _ _ _ y9)
            have HG4 : Hid (w9.cell? ⟨q1, 4, none⟩ = some (.int .i64 d.leaf)) := Lib.hid (cell_of_row w9 q1 4 _ _ _ y9)
            have HRZ : Hid (rdX zs = (0, l, some c)) := Lib.hid (by rw [HRX.out, endR, if_neg (by simp), if_neg (by rw [hf]; simp; have := HNL.out; omega)])
            clear hf y9
            go_upto_region 12 with (fail)
            refine wp_region_GS (by kernel_rfl) [] [.val (.slice ad4 m cap4), .val (.agg #[.int .i64 d.srt, .slice d.ia ni d.ic, .slice d.ra nr d.rc, .slice d.sa ns d.sc, .int .i64 d.leaf]), .val (.slice ad4 m cap4)] [[(6, none)], [(8, none)], [(43, some 0)]] [] (fun _ _ => True) 3 rfl (by kernel_rfl) (by kernel_rfl) (by kernel_rfl) (by kernel_rfl) (by kernel_rfl) (by simp) (fun _ _ _ h _ => h) trivial ?_ ?_
            · refine (ObG.free rfl ?o0 (ObG.free rfl ?o1 (ObG.free rfl ?o2 trivial)))
              case o0 => intro aR wR mR hR hI; replace hR := hR.undrew; intro (h6 : aR.tmps[6]? = some (.slice ad4 m cap4)); exact exec_val (c := .slice ad4 m cap4) (wanted_none rfl) (by go_simp) rfl
              case o1 => intro aR wR mR hR hI; replace hR := hR.undrew; intro (h8 : aR.tmps[8]? = some (.pointer (some ⟨q1, 0, none⟩))); (have h0 := hR.cell HG0.out (by simp); have h1 := hR.cell HG1.out (by simp); have h2 := hR.cell HG2.out (by simp); have h3 := hR.cell HG3.out (by simp); have h4 := hR.cell HG4.out (by simp)); exact exec_val (c := .agg #[.int .i64 d.srt, .slice d.ia ni d.ic, .slice d.ra nr d.rc, .slice d.sa ns d.sc, .int .i64 d.leaf]) (wanted_none rfl) (by go_simp) rfl
              case o2 => intro aR wR mR hR hI; replace hR := hR.undrew; intro v43 h43 e43; replace e43 : v43 = .slice ad4 m cap4 := e43; subst e43; exact exec_val (c := .slice ad4 m cap4) (wanted_none rfl) (by go_simp) rfl
            · intro vs wR hR hI hV
              obtain ⟨e0, e1, e2, -⟩ := hV
              replace e0 : vs 0 = .slice ad4 m cap4 := e0
              replace e1 : vs 1 = .agg #[.int .i64 d.srt, .slice d.ia ni d.ic, .slice d.ra nr d.rc, .slice d.sa ns d.sc, .int .i64 d.leaf] := e1
              replace e2 : vs 2 = .slice ad4 m cap4 := e2
              simp only [putAll, List.take_succ_cons, List.take_zero, List.drop_succ_cons, List.drop_zero, e0, e1, e2, Nat.reduceAdd, Nat.zero_add]
              clear e0 e1 e2
              try simp only [List.setIfInBounds_toArray, List.set_cons_succ, List.set_cons_zero]
              have HZR := Lib.hid (hR.get HZ9.out (by simp))
              have HKR := Lib.hid (HK9.out.tr hR)
              have HOR := Lib.hid (HO9.out.keep0 hR)
              have HOCR := Lib.hid (HOC9.out.keep0 hR)
              clear hR hI
              refine wpList_store_row rfl 26 _ _ rfl q0 #[.int .i64 d.srt, .slice d.ia ni d.ic, .slice d.ra nr d.rc, .slice d.sa ns d.sc, .int .i64 d.leaf] rfl rfl 26 _ HZR.out (by kernel_rfl) rfl (by simp [Value.oneCell']) ?_
              go_wp2_with fail
              have KXR : Kp [q0] wR (wR.setRow q0 #[.int .i64 d.srt, .slice d.ia ni d.ic, .slice d.ra nr d.rc, .slice d.sa ns d.sc, .int .i64 d.leaf]) := (Kp.refl [q0] wR).setRow2 _ _ (.inl (by simp))
              refine bodyPost_ret (v := .tuple #[.slice ad4 m cap4, .agg #[.int .i64 d.srt, .slice d.ia ni d.ic, .slice d.ra nr d.rc, .slice d.sa ns d.sc, .int .i64 d.leaf], .int .i64 0]) (results_c3 Try.results29 _ _ q0 26 #[.int .i64 d.srt, .slice d.ia ni d.ic, .slice d.ra nr d.rc, .slice d.sa ns d.sc, .int .i64 d.leaf] (0, 0) _ rfl (setRow_heap _ q0 _ _ _ _ HZR.out) Try.underlying26 rfl (by kernel_rfl)) rfl ⟨l, d, ad4, cap4, ?_, by rw [HRZ.out], ?_, ?_, HOK.out, fun c' hc' => ?_, HKR.out.trans KXR (by simp) (fun y hy => .inr (by simp at hy; have := HQ.out; omega))⟩
              · rw [HRZ.out, HVL.out, ← HM.out]
              · exact (HOR.out.keep KXR (fun y hy hx => by have := (HO4.out.ob_ge y hy).1; simp at hx; omega)).mono HK3.out.size
              · exact (HOCR.out.keep KXR (fun y hy => by simp at hy; omega)).mono HK5.out.size
              · rw [HRZ.out] at hc'
                obtain rfl : c = c' := by simpa using hc'
                exact HAL.out
end Go.Proofs.Ytegnobdablbahaa
