/-
  Finishing: Finish.
-/
import Derived.Test.YtfacpfogdcefpaaFinB
namespace Go.Proofs.Ytfacpfogdcefpaa
open Go.RowKit Go.Shelf
set_option linter.unusedSimpArgs false
set_option linter.unusedVariables false
set_option maxRecDepth 100000
attribute [local go_sem] Oper.semAt_some

theorem finish1_any (a0 : Option Addr) (c0 n : Nat) (a : List V3) (hn : n = a.length) (b0 : Option Addr) (c1 m : Nat) (b : List V3) (hm : m = b.length) (q : Int) (k0 : Option Addr) (c2 kn : Nat) (ks : List Ky) (hk : kn = ks.length) (Pb Pk : Nat) (w : World) (ha : RdV w a0 c0 a) (hb : RdV w b0 c1 b) (hks : RdK w k0 c2 ks)
    (hpb : w.cell? ⟨Pb, 0, none⟩ = some (.int .i64 q)) (hpk : w.cell? ⟨Pk, 0, none⟩ = some (.slice k0 kn c2)) :
    Calls Try.prog 54 #[.slice a0 n c0, .slice b0 m c1, .pointer (some ⟨Pb, 0, none⟩), .pointer (some ⟨Pk, 0, none⟩)] w fun e w' => e = .returned (.int .i64 (cmpW (min n m) q ks a b)) ∧ Kp [] w w' := by
  have H := Lib.hid (fiCompare_any a0 c0 n a hn b0 c1 m b hm q k0 c2 kn ks hk w ha hb hks)
  clear hn hm hk ha hb hks
  generalize cmpW (min n m) q ks a b = v at *
  go_enter Try.func54, Try.ntmps54
  go_wp2_with fail
  refine H.out.mono ?_
  rintro e w5 ⟨rfl, kp⟩
  go_wp2_with fail
  go_ret
  exact ⟨rfl, kp⟩
def cmpH (N : Nat) (q : Int) (ks : List Ky) (x y : Hd) : Int := cmpW N q ks x.row y.row
theorem cmpH_swo (N : Nat) (q : Int) (ks : List Ky) : Swo (ltc (cmpH N q ks)) where
  asym x y h := (cmpW_swo N q ks).asym x.row y.row h
  neg x y z h1 h2 := (cmpW_swo N q ks).neg x.row y.row z.row h1 h2
/-- The comparison that Finish hands over. -/
theorem finish1_cmp (g Pb Pk N : Nat) (q : Int) (k0 : Option Addr) (c2 kn : Nat) (ks : List Ky) (hk : kn = ks.length) (w : World) (hks : RdK w k0 c2 ks) (hkg : ∀ x, k0 = some x → ks ≠ [] → x.block ≠ g)
    (hpb : w.cell? ⟨Pb, 0, none⟩ = some (.int .i64 q)) (hpk : w.cell? ⟨Pk, 0, none⟩ = some (.slice k0 kn c2)) (hg1 : Pb ≠ g) (hg2 : Pk ≠ g) :
    CmpOk g w (fun h => HdOk w h ∧ h.row.length = N ∧ ∀ x, h.ad = some x → h.row ≠ [] → x.block ≠ g) 54 #[.pointer (some ⟨Pb, 0, none⟩), .pointer (some ⟨Pk, 0, none⟩)] (cmpH N q ks) where
  enters := enters_of (P := Try.prog) Try.func54 (by kernel_rfl) rfl
  tells W hW x y hx hy := by
    obtain ⟨⟨h1, h2⟩, h3, h4⟩ := hx
    obtain ⟨⟨k1, k2⟩, k3, k4⟩ := hy
    have := finish1_any x.ad x.cap x.n x.row h1 y.ad y.cap y.n y.row k1 q k0 c2 kn ks hk Pb Pk W (h2.keep hW (fun a ha hne hm => h4 a ha hne (by simpa using hm))) (k2.keep hW (fun a ha hne hm => k4 a ha hne (by simpa using hm))) (hks.keep hW (fun a ha hne hm => hkg a ha hne (by simpa using hm))) (hW.cell hpb (by simpa using hg1)) (hW.cell hpk (by simpa using hg2))
    rw [show min x.n y.n = N by omega] at this
    exact this
  rng x y := by have := (cmpW_anti N q ks x.row y.row).2; unfold cmpH; omega
theorem stab_rows2 {N : Nat} {q : Int} {ks : List Ky} {l r : List Hd} (h : Stab (ltc (cmpH N q ks)) l r) : Stab (fun x y => decide (cmpW N q ks x y < 0)) (l.map (·.row)) (r.map (·.row)) := by
  refine ⟨List.pairwise_map.2 h.1, fun x => ?_⟩
  have := h.2 ⟨none, 0, 0, x⟩
  unfold alk at this ⊢
  rw [List.filter_map, List.filter_map]
  exact congrArg (List.map (·.row)) this
theorem dat_ownS {w : World} {base : Nat} {ad : Option Addr} {cap : Nat} {xs : List Hd} (h : OwnS hcells 1 w base 36 ad cap xs) (hne : xs ≠ []) : ∃ g cur, ad = some ⟨g, 0, none⟩ ∧ base ≤ g ∧ xs.length ≤ cap ∧ cap ≤ 9223372036854775807 ∧ w.heap[g]? = some (.cells cur 36 (0, 0)) ∧ Dat w g xs := by
  rcases h with ⟨-, rfl⟩ | ⟨g, cur, h1, h2, h3, h4, h5, h6, h7⟩
  · exact (hne rfl).elim
  · refine ⟨g, cur, h1, h2, h5, h6, h3, cur, _, h3, by omega, fun i hi => ?_⟩
    have e : cur.toList[i]? = (cur.toList.take (xs.length * 1))[i]? := by rw [List.getElem?_take, if_pos (by omega)]
    rw [← Array.getElem?_toList, e, h7, flat_hcells]
    simp [hi]
/-- What Finish tells. -/
def FinPost (N : Nat) (q : Int) (ks : List Ky) (lim : Int) (rows : List (List V3)) (w : World) (e : Ending) (w' : World) : Prop :=
  Kp [] w w' ∧ ∃ oa oc k R S, e = .returned (.slice oa k oc) ∧ k = R.length ∧ RdR w' oa oc R ∧ Stab (fun x y => decide (cmpW N q ks x y < 0)) rows S ∧ R.map (·.row) = (if lim < 0 then S else S.take lim.toNat)
theorem ownS_grown {base n₁ : Nat} {ad : Option Addr} {cap : Nat} {xs : List Hd} {W W' : World} {row : Option Nat} (h : OwnS hcells 1 W base 36 ad cap xs) (hg : W.grownBy W' row) (hr : ∀ r, row = some r → n₁ ≤ r ∧ ∃ o : Obj, W.heap[r]? = some o ∧ o.isCells = false) : OwnS hcells 1 W' base 36 ad cap xs := by
  rcases h with h | ⟨g, cur, g1, g2, g3, g4⟩
  · exact .inl h
  · exact .inr ⟨g, cur, g1, g2, (hg.block g (lt_of_heap g3) (fun e => by obtain ⟨o, ho, hc⟩ := (hr g e.symm).2; rw [g3] at ho; cases ho; cases hc)).trans g3, g4⟩

/-- What stands between two rounds in Finish. -/
def FinI (n₁ B : Nat) (w1 : World) (pre : List Hd) (W : World) : Prop :=
  ∃ ado capo, Boxed W B 27 (.slice ado pre.length capo) ∧ OwnS hcells 1 W n₁ 36 ado capo pre ∧ Kq n₁ B w1 W
theorem finI_own (n₁ B : Nat) (w1 : World) (hw : w1.heap.size = n₁) : OwnFrom n₁ (FinI n₁ B w1) := by
  rintro pre W W' row ⟨ado, capo, h1, h2, h3⟩ hg hr
  exact ⟨ado, capo, h1.kept hg (fun e => by obtain ⟨o, ho, hc⟩ := (hr B e.symm).2; rw [show W.heap[B]? = _ from h1] at ho; cases ho; cases hc), ownS_grown h2 hg hr, h3.trans (Kq.grown hg hr)⟩

theorem ob_cells {base : Nat} {ad : Option Addr} {cap : Nat} {xs : List Hd} {W : World} (h : OwnS hcells 1 W base 36 ad cap xs) {b : Nat} (hb : b ∈ ob ad cap) : ∃ cur, W.heap[b]? = some (.cells cur 36 (0, 0)) := by
  rcases h with ⟨h, -⟩ | ⟨g, cur, rfl, h1, h2, -⟩
  · simp [ob, h] at hb
  · unfold ob at hb
    split at hb
    · simp at hb
    · simp at hb; subst hb; exact ⟨cur, h2⟩
/-- One more row. -/
theorem fin_body {n₁ B : Nat} {w1 W w6 : World} {pre : List Hd} {x : Hd} {ado ad6 : Option Addr} {capo cap6 : Nat} {o : Obj} (hB : B < n₁) (hbx : Boxed W B 27 (.slice ado pre.length capo)) (how : OwnS hcells 1 W n₁ 36 ado capo pre) (hkq : Kq n₁ B w1 W)
    (ho6 : OwnS hcells 1 w6 n₁ 36 ad6 cap6 (pre ++ [x])) (kp6 : Kp (ob ado capo) (W.alloc o) w6) :
    Boxed w6 B 27 (.slice ado pre.length capo) ∧ KeepsFrom n₁ W (w6.setCell ⟨B, 0, none⟩ (.slice ad6 (pre.length + 1) cap6)) ∧ Kq n₁ B W (w6.setCell ⟨B, 0, none⟩ (.slice ad6 (pre.length + 1) cap6)) ∧ FinI n₁ B w1 (pre ++ [x]) (w6.setCell ⟨B, 0, none⟩ (.slice ad6 (pre.length + 1) cap6)) := by
  have k6 : Kp (ob ado capo) W w6 := ((Kp.refl [] W).alloc o).trans kp6 (by simp) (fun y hy => .inl hy)
  have hBo : B ∉ ob ado capo := fun h => by have := (how.ob_ge B h).1; omega
  have b6 : Boxed w6 B 27 (.slice ado pre.length capo) := k6.get hbx hBo
  have hset : ∀ q, q ≠ B → (w6.setCell ⟨B, 0, none⟩ (.slice ad6 (pre.length + 1) cap6)).heap[q]? = w6.heap[q]? := fun q hq => Below.heap_setCell _ _ _ _ (by simpa using hq)
  have ks : Kp [B] w6 (w6.setCell ⟨B, 0, none⟩ (.slice ad6 (pre.length + 1) cap6)) := (Kp.refl [B] w6).setCell _ _ (by simp)
  have hsz : w6.heap.size ≤ (w6.setCell ⟨B, 0, none⟩ (.slice ad6 (pre.length + 1) cap6)).heap.size := by simp
  have hq : Kq n₁ B W (w6.setCell ⟨B, 0, none⟩ (.slice ad6 (pre.length + 1) cap6)) := by
    refine ⟨ks.os.trans k6.os, ks.tape.trans k6.tape, ks.output.trans k6.output, Nat.le_trans k6.size hsz, fun q h1 h2 h3 => ?_, fun q cs fr h1 => ?_⟩
    · rw [hset q h2]; exact k6.block q h3 (fun h => by have := (how.ob_ge q h).1; omega)
    · have hqB : q ≠ B := by
        intro e; subst e
        have h2 : W.heap[q]? = _ := hbx
        rw [h2] at h1; cases h1
      rw [hset q hqB]
      refine k6.get h1 (fun h => ?_)
      obtain ⟨cur, h2⟩ := ob_cells how h
      rw [h2] at h1; cases h1
  refine ⟨b6, ⟨Nat.le_trans k6.size hsz, fun k o hk ho hc => ?_⟩, hq, ad6, cap6, ?_, ho6.keep (S := [B]) ((Kp.refl [B] w6).setCell _ _ (by simp)) (fun b hb hm => ?_), hkq.trans hq⟩
  · rw [hset k (by omega)]
    refine k6.get ho (fun h => ?_)
    obtain ⟨cur, h2⟩ := ob_cells how h
    rw [h2] at ho; cases ho; cases hc
  · rw [List.length_append]; exact b6.set _
  · simp at hm
    have := (ho6.ob_ge b hb).1
    omega
/-- A block of deferred calls holds no cells. -/
theorem not_def {α : Type} {f : α → List Value} {sz : Nat} {w : World} {ad : Option Addr} {cap D : Nat} {l : List α} {ds : Option (List Deferred)} (h : RdS f sz w ad cap l) (L : Lies f sz) (hD : w.heap[D]? = some (.deferred ds)) : ∀ x, ad = some x → l ≠ [] → x.block ∉ [D] := by
  rintro x rfl hne hm
  obtain ⟨b, off, h1, h2⟩ := h.2.2 0 (List.length_pos_iff.2 hne)
  cases h1
  have h3 := h2 0 L.pos
  have hl := L.len (l[0]'(List.length_pos_iff.2 hne))
  rw [List.getElem?_eq_getElem (by have := L.pos; omega)] at h3
  obtain ⟨o, ho, hc⟩ := cells_of_cell h3
  simp at hm
  subst hm
  dsimp only at ho
  rw [hD] at ho
  cases ho; cases hc
theorem kp_putD {S : List Nat} {w w' : World} (h : Kp S w w') {D : Nat} (hD : w.heap.size ≤ D ∨ D ∈ S) (o : Obj) : Kp S w (w'.putObj D o) :=
  ⟨h.os, h.tape, h.output, Nat.le_trans h.size (grownBy_putObj' w' D o).size, fun k hk hn => by
    have h2 := h.size
    rw [(grownBy_putObj' w' D o).block k (by omega) (fun e => by cases e; rcases hD with hD | hD; omega; exact hn hD)]
    exact h.block k hk hn⟩
theorem rdR_putD {w : World} {ad : Option Addr} {cap D : Nat} {R : List Hd} {ds : Option (List Deferred)} (h : RdR w ad cap R) (hD : w.heap[D]? = some (.deferred ds)) (o : Obj) : RdR (w.putObj D o) ad cap R :=
  ⟨h.1.keep hlies.len (S := [D]) (kp_putD (Kp.refl [D] w) (.inr (by simp)) o) (not_def h.1 hlies hD), fun x hx => ⟨(h.2 x hx).1, (h.2 x hx).2.keep (S := [D]) (kp_putD (Kp.refl [D] w) (.inr (by simp)) o) (not_def (h.2 x hx).2 vlies hD)⟩⟩
theorem head_law (ad : Option Addr) (cap n b : Nat) (hb : b ≤ n) (hc : n ≤ cap) (wx : World) : (Instr.slice 27 (.slice ad n cap) none (some (.int .i64 b)) none).run Try.prog wx = .ok (.slice ad b cap) wx := by
  rw [run_slice_h (P := Try.prog) (w := wx) 27 ad n cap (by kernel_rfl) .i64 (b : Int) (by omega) (by omega), size_row]
  simp [Result.andThen, sliced]
  intro _
  cases ad <;> rfl
theorem rdS_dat {w : World} {g cap : Nat} {R : List Hd} (h : Dat w g R) (hc : R.length ≤ cap) (hc2 : cap ≤ 9223372036854775807) : RdS hcells 1 w (some ⟨g, 0, none⟩) cap R := by
  refine ⟨hc, hc2, fun i hi => ⟨g, 0, rfl, fun j hj => ?_⟩⟩
  have := (h.cell hi).1
  obtain rfl : j = 0 := by omega
  simpa [hcells] using this
theorem kp_of {w w1 W V : World} {B : Nat} (k1 : Kp [] w w1) (hB : Below w1.heap.size w1 W) (kq : Kq w1.heap.size B W V) (hb : w.heap.size ≤ B) : Kp [] w V :=
  ⟨kq.os.trans (hB.os.trans k1.os), kq.tape.trans (hB.tape.trans k1.tape), kq.output.trans (hB.output.trans k1.output), Nat.le_trans k1.size (Nat.le_trans hB.size kq.size), fun q hq _ => by
    have h1 := k1.size
    have h2 := hB.size
    rw [kq.low q (by omega) (by omega) (by omega), hB.block q (by omega)]
    exact k1.block q hq (by simp)⟩
theorem box_of {w1 W V : World} {B q : Nat} {o : Obj} (h : w1.heap[q]? = some o) (hB : Below w1.heap.size w1 W) (kq : Kq w1.heap.size B W V) (hq : q ≠ B) : V.heap[q]? = some o := by
  have h1 := lt_of_heap h
  rw [kq.low q h1 hq (Nat.lt_of_lt_of_le h1 hB.size), hB.block q h1]
  exact h

set_option maxHeartbeats 2000000 in
theorem fiFinish_any (ra : Option Addr) (rc m : Nat) (hs : List Hd) (hm : m = hs.length) (q : Int) (t : Tst) (k0 : Option Addr) (c2 kn : Nat) (ks : List Ky) (hk : kn = ks.length) (lim : Int) (ps : List V3 → Bool) (N : Nat) (w : World) (hr : RdR w ra rc hs) (hmb : m ≤ 1000000) (hks : RdK w k0 c2 ks) (hrow : ∀ x ∈ hs, x.row.length = N) (hN : N ≤ 1000000)
    (hpass : ∀ x ∈ hs, ∀ V, HdOk V x → Calls Try.prog 68 #[tstV t, .slice x.ad x.n x.cap] V fun e V' => e = .returned (.bool (ps x.row)) ∧ Kp [] V V')
    (hne : (hs.map (·.row)).filter ps ≠ []) :
    Calls Try.prog 27 #[.slice ra m rc, .int .i64 q, tstV t, .slice k0 kn c2, .int .i64 lim] w (FinPost N q ks lim ((hs.map (·.row)).filter ps) w) := by
  have HM := Lib.hid hm
  have HR := Lib.hid hr
  have HKN := Lib.hid hk
  have HKS := Lib.hid hks
  have HROW := Lib.hid hrow
  have HPASS := Lib.hid hpass
  have HNE := Lib.hid hne
  clear hm hr hk hks hrow hpass hne
  refine (callsIn_wide (n := 6)).1 ?_
  refine callsIn_of_wp_marks Try.func27 rfl trivial ?_ rfl
  simp only [Try.ntmps27, List.size_toArray, List.length_cons, List.length_nil, Nat.reduceAdd, Nat.reduceSub, Array.replicate_succ, Array.replicate_zero, List.push_toArray, List.append_toArray, List.nil_append, List.cons_append]
  unfold tstV tstC
  gi_wp2
  refine ⟨trivial, (callsIn_wide.2 (passing_any ra m rc t _)).mono ?_⟩
  rintro e w7 ⟨rfl, rfl⟩
  unfold tstC
  gi_wp2
  obtain ⟨p, hp⟩ : ∃ p, p = w.heap.size := ⟨_, rfl⟩
  obtain ⟨w1, hw1⟩ : ∃ w1, w1 = (((((w.alloc (Obj.cells #[Value.int IntKind.i64 q] 3)).alloc (Obj.cells #[.int .u8 t.op, .slice none 0 0, .int .i64 t.out, .int .u8 t.cmp, .int .u8 t.v.k, .int .i64 t.v.n, .string t.v.s] 53)).alloc (Obj.cells #[Value.slice k0 kn c2] 45)).alloc (Obj.cells #[Value.slice none 0 0] 27)).alloc (Obj.cells #[Value.slice ra m rc] 27)).alloc (Obj.cells #[.int .u8 t.op, .slice none 0 0, .int .i64 t.out, .int .u8 t.cmp, .int .u8 t.v.k, .int .i64 t.v.n, .string t.v.s] 53) := ⟨_, rfl⟩
  have hk1 : Kp [] w w1 := by rw [hw1]; exact ((((((Kp.refl [] w).alloc _).alloc _).alloc _).alloc _).alloc _).alloc _
  have hsz : w1.heap.size = p + 6 := by rw [hw1, hp]; simp
  have hb0 : w1.heap[p]? = some (.cells #[Value.int IntKind.i64 q] 3) := by
    rw [hw1]; exact cells_alloc (cells_alloc (cells_alloc (cells_alloc (cells_alloc (heap_alloc_at hp)))))
  have hb2 : w1.heap[p + 1 + 1]? = some (.cells #[Value.slice k0 kn c2] 45) := by
    rw [hw1]; exact cells_alloc (cells_alloc (cells_alloc (heap_alloc_at (by simp [hp]))))
  have hb3 : w1.heap[p + 1 + 1 + 1]? = some (.cells #[Value.slice none 0 0] 27) := by
    rw [hw1]; exact cells_alloc (cells_alloc (heap_alloc_at (by simp [hp])))
  have hb4 : w1.heap[p + 1 + 1 + 1 + 1]? = some (.cells #[Value.slice ra m rc] 27) := by
    rw [hw1]; exact cells_alloc (heap_alloc_at (by simp [hp]))
  have hb5 : w1.heap[p + 1 + 1 + 1 + 1 + 1]? = some (.cells (tstC t) 53) := by
    rw [hw1]; exact heap_alloc_at (by simp [hp])
  rw [← hw1, ← hp]
  clear hw1
  have HP := Lib.hid hp
  have HK1 := Lib.hid hk1
  have HSZ := Lib.hid hsz
  have HB0 := Lib.hid hb0
  have HB2 := Lib.hid hb2
  clear hp hk1 hsz hb0 hb2
  refine range_told (n := 6) (by omega) (gf := 67) (lb := #[.pointer (some ⟨p + 1 + 1 + 1 + 1, 0, none⟩), .pointer (some ⟨p + 1 + 1 + 1 + 1 + 1, 0, none⟩)]) rfl (enters_of Try.func67 (by kernel_rfl) rfl)
    (encs := fun x : Hd => #[.slice x.ad x.n x.cap]) (fun _ => rfl) m (GRow w1.heap.size) (Kq w1.heap.size (p + 1 + 1 + 1)) (Passed w1.heap.size ((hs.map (·.row)).filter ps)) (FinI w1.heap.size (p + 1 + 1 + 1) w1)
    Kq.trans (fun W l o o' hl h hc => Kq.put W l o o' hl h hc) (finI_own _ _ _ rfl) (gRow_own _) (passed_own _ _) ⟨none, 0, hb3, OwnS.nil _ _ _ _ _, Kq.refl _ _ _⟩
    (fun x => { tmps := #[.slice ra m rc, .int .i64 q, .agg #[.int .u8 t.op, .slice none 0 0, .int .i64 t.out, .int .u8 t.cmp, .int .u8 t.v.k, .int .i64 t.v.n, .string t.v.s], .slice k0 kn c2, .int .i64 lim, undef, .pointer (some ⟨p, 0, none⟩), .pointer (some ⟨p + 1, 0, none⟩), .pointer (some ⟨p + 1 + 1, 0, none⟩), undef, .slice none 0 0, .pointer (some ⟨p + 1 + 1 + 1, 0, none⟩), .slice x.ad x.n x.cap, .slice ra m rc, .agg #[.int .u8 t.op, .slice none 0 0, .int .i64 t.out, .int .u8 t.cmp, .int .u8 t.v.k, .int .i64 t.v.n, .string t.v.s], .func (.func 67) #[] #[.pointer (some ⟨p + 1 + 1 + 1 + 1, 0, none⟩), .pointer (some ⟨p + 1 + 1 + 1 + 1 + 1, 0, none⟩)], .slice x.ad x.n x.cap, undef, undef, undef, undef, undef, undef, undef, undef, undef, undef, undef, undef, undef, undef, undef, undef], defers := [] })
    ?seq ?assign ?body ?done
  case seq =>
    intro l J W hB hJ hY h0
    have hq : ∀ V, Kq w1.heap.size (p + 1 + 1 + 1) W V → Kp [] w V := fun V hV => kp_of HK1.out hB hV (by have := HP.out; omega)
    refine passing1_in 5 (by omega) l (p + 1 + 1 + 1 + 1) (p + 1 + 1 + 1 + 1 + 1) (p + 1 + 1 + 1) w1.heap.size t ra rc m hs HM.out hmb ps J W (fun x hx => by rw [HROW.out x hx]; exact hN)
      (fun V hV => HR.out.keep0 (hq V hV)) (fun x hx V hV => HPASS.out x hx V ((HR.out.keep0 (hq V hV)).2 x hx)) (fun V hV => by rw [cell_of_row V _ 0 _ _ _ (box_of hb4 hB hV (by omega))]; rfl) (fun V hV => box_of hb5 hB hV (by omega)) hB.size hJ hY h0
  case assign =>
    intro l x W K hK
    gi_wp2
    exact hK
  case body =>
    rintro l pre x W ⟨ado, capo, hbx, how, hkq⟩ hgx hlen
    have HBX := Lib.hid hbx
    have HOW := Lib.hid how
    have HKQ := Lib.hid hkq
    have hc := hbx.cell
    have hB := HSZ.out
    have hsw := hkq.size
    have HBL : Hid (p + 1 + 1 + 1 < w1.heap.size) := Lib.hid (by omega)
    clear hbx how hkq hgx hb3 hb4 hb5
    dsimp only
    gi_wp2_with (gi_at_builtin; refine wpListIn_appS hlies rfl (.tmp 17) (.tmp 19) 27 27 rfl w1.heap.size 36 (.slice none 0 0) 24 Try.underlying27 infoRow rfl ado capo pre.length pre rfl [x] _ 1 rfl rfl rfl (HOW.out.keep0 ((Kp.refl [] W).alloc _)) (src_oneS hlies Try.underlying27 (heap_alloc_at rfl)) (by omega) (by omega) (by simp; omega) ?_; intro ad6 cap6 w6 ho6 kp6 _ _; have HF6 := Lib.hid (fin_body HBL.out HBX.out HOW.out HKQ.out ho6 kp6); have hc6 := HF6.out.1.cell; have hf6 := HF6.out.1.frozen; clear ho6 kp6)
    exact HF6.out.2
  case done =>
    rintro D xs W hD hS ⟨ado, capo, hbx, how, hkq⟩ hK
    have hxne : xs ≠ [] := by
      intro e
      have := hS.1
      rw [e] at this
      exact HNE.out this.symm
    obtain ⟨g, cur, rfl, hg, hcap, hcap2, hgc, hd⟩ := dat_ownS how hxne
    have KW : Hid (Kp [] w W) := Lib.hid (kp_of HK1.out (Below.refl _ _) hkq (by have := HP.out; omega))
    have hsz := HSZ.out
    have hgD : g ≠ D := by intro e; subst e; rw [hgc] at hK; cases hK
    have HS := Lib.hid hS
    have HXL : Hid (xs.length ≤ m) := Lib.hid (by
      have h1 := congrArg List.length hS.1
      have h2 := List.length_filter_le ps (hs.map (·.row))
      simp only [List.length_map] at h1 h2
      rw [HM.out]; omega)
    have HU : Hid (∀ x ∈ xs, HdOk W x ∧ x.row.length = N ∧ ∀ a, x.ad = some a → x.row ≠ [] → a.block ≠ g) := Lib.hid (fun x hx => by
      have hG := hS.2 x hx
      refine ⟨hG.ok, ?_, fun a ha hr0 e => ?_⟩
      · have h1 : x.row ∈ xs.map (·.row) := List.mem_map_of_mem hx
        rw [hS.1] at h1
        obtain ⟨y, hy, e⟩ := List.mem_map.1 (List.mem_filter.1 h1).1
        rw [← e]; exact HROW.out y hy
      · rcases hG.2.2 with ⟨-, h⟩ | ⟨g', cur', h1, -, h2, -⟩
        · exact hr0 h
        · rw [ha] at h1; cases h1
          dsimp only at e
          subst e
          rw [h2] at hgc; cases hgc)
    have HU2 : Hid (∀ x ∈ xs, ∀ a, x.ad = some a → x.row ≠ [] → a.block ≠ p + 1 + 1 + 1) := Lib.hid (fun x hx a ha hr0 e => by
      rcases (hS.2 x hx).2.2 with ⟨-, h⟩ | ⟨g', cur', h1, h2, -⟩
      · exact hr0 h
      · rw [ha] at h1; cases h1
        dsimp only at e
        omega)
    have q0 : W.heap[p]? = some (.cells #[Value.int IntKind.i64 q] 3) := (hkq.low p (by omega) (by omega) (by omega)).trans HB0.out
    have q2 : W.heap[p + 1 + 1]? = some (.cells #[Value.slice k0 kn c2] 45) := (hkq.low (p + 1 + 1) (by omega) (by omega) (by omega)).trans HB2.out
    have SORT := Lib.hid (sortSt_any g xs.length capo _ _ (cmpH N q ks) _ W (finish1_cmp g p (p + 1 + 1) N q k0 c2 kn ks HKN.out W (RdK.keep0 HKS.out KW.out) (fun x hx hne => by
      have h1 := RdS.lt HKS.out (by omega) klies.len x hx hne
      have := HP.out
      omega) (by rw [cell_of_row W p 0 _ _ _ q0]; rfl) (by rw [cell_of_row W (p + 1 + 1) 0 _ _ _ q2]; rfl) (by omega) (by omega)) (cmpH_swo N q ks) (by have := HXL.out; omega) hcap xs rfl HU.out hd)
    have HBX := Lib.hid hbx
    have hc := hbx.cell
    have HKD := Lib.hid hK
    have HGE : Hid (w1.heap.size ≤ g ∧ p + 1 + 1 + 1 < w1.heap.size ∧ w.heap.size ≤ p) := Lib.hid ⟨hg, by omega, by have := HP.out; omega⟩
    clear hxne how hkq hgc hd hsz q0 q2 hbx hK hb3 hb4 hb5 hS
    dsimp only
    gi_wp2
    refine ⟨trivial, (callsIn_wide.2 SORT.out).mono ?_⟩
    rintro e w8 ⟨⟨v, rfl⟩, R, hst, hd8, kp8⟩
    have HRL : Hid (R.length = xs.length) := Lib.hid (hst.len (cmpH_swo N q ks))
    have HB8 : Hid (Boxed w8 (p + 1 + 1 + 1) 27 (.slice (some ⟨g, 0, none⟩) xs.length capo)) := Lib.hid (kp8.get HBX.out (by have := HGE.out; simp; omega))
    have hc8 := HB8.out.cell
    have hf8 := HB8.out.frozen
    have HR8 : Hid (RdR w8 (some ⟨g, 0, none⟩) capo R) := Lib.hid ⟨rdS_dat hd8 (by rw [HRL.out]; exact hcap) hcap2, fun x hx => by
      obtain ⟨⟨h1, h2⟩, -, h3⟩ := HU.out x (hst.mem (cmpH_swo N q ks) hx)
      exact ⟨h1, h2.keep kp8 (fun a ha hne hm => h3 a ha hne (by simpa using hm))⟩⟩
    have HD8 : Hid (w8.heap[D]? = some (.deferred (some []))) := Lib.hid (kp8.get HKD.out (by simpa using hgD.symm))
    have K8 : Hid (Kp [] w w8) := Lib.hid (KW.out.trans kp8 (by simp) (fun x hx => by simp at hx; subst hx; have := HGE.out; exact .inr (by omega)))
    have HST : Hid (Stab (fun x y => decide (cmpW N q ks x y < 0)) ((hs.map (·.row)).filter ps) (R.map (·.row))) := Lib.hid (by rw [← HS.out.1]; exact stab_rows2 hst)
    have HDW : Hid (w.heap.size ≤ D) := Lib.hid (by have := HGE.out; omega)
    have HMEM : Hid (∀ x ∈ R, x ∈ xs) := Lib.hid (fun x hx => hst.mem (cmpH_swo N q ks) hx)
    clear hst hd8 kp8 SORT HBX
    by_cases hl : lim < 0
    · gi_wp2
      refine ⟨by simp, .inl ⟨_, _, rfl, run_takeDeferred HD8.out, ?_⟩⟩
      exact ⟨_, results_tmp rfl _ _ _, kp_putD K8.out (.inl HDW.out) _, some ⟨g, 0, none⟩, capo, xs.length, R, R.map (·.row), rfl, HRL.out.symm, rdR_putD HR8.out HD8.out _, HST.out, by rw [if_pos hl]⟩
    · obtain ⟨L, rfl⟩ : ∃ L : Nat, lim = (L : Int) := ⟨lim.toNat, by omega⟩
      have hmin := min_two L xs.length
      obtain ⟨kk, hkk⟩ : ∃ kk, kk = min L xs.length := ⟨_, rfl⟩
      rw [← hkk] at hmin
      have hkb : kk ≤ xs.length := by omega
      have HKK := Lib.hid hkk
      clear hkk
      have hhd := head_law (some ⟨g, 0, none⟩) capo xs.length kk hkb hcap
      gi_wp2
      have KS : Kp [p + 1 + 1 + 1] w8 (w8.setCell ⟨p + 1 + 1 + 1, 0, none⟩ (.slice (some ⟨g, 0, none⟩) kk capo)) := (Kp.refl _ w8).setCell _ _ (by simp)
      have hD9 := KS.get HD8.out (by have := HGE.out; simp; omega)
      have hR9 : RdR (w8.setCell ⟨p + 1 + 1 + 1, 0, none⟩ (.slice (some ⟨g, 0, none⟩) kk capo)) (some ⟨g, 0, none⟩) capo (R.take kk) :=
        ⟨(HR8.out.1.keep hlies.len KS (fun x hx _ => by cases hx; have := HGE.out; simp; omega)).head (by rw [HRL.out]; exact hkb), fun x hx => by
          have hx := List.mem_of_mem_take hx
          exact ⟨(HR8.out.2 x hx).1, (HR8.out.2 x hx).2.keep KS (fun a ha hr0 hm => HU2.out x (HMEM.out x hx) a ha hr0 (by simpa using hm))⟩⟩
      refine ⟨by simp, .inl ⟨_, _, rfl, run_takeDeferred hD9, ?_⟩⟩
      refine ⟨_, results_tmp rfl _ _ _, kp_putD (K8.out.setCell _ _ (.inr (by have := HGE.out; dsimp only; omega))) (.inl HDW.out) _, some ⟨g, 0, none⟩, capo, kk, R.take kk, R.map (·.row), rfl, ?_, rdR_putD hR9 hD9 _, HST.out, ?_⟩
      · rw [List.length_take, HRL.out]; omega
      · rw [if_neg (by omega), Int.toNat_natCast, List.map_take, HKK.out, ← HRL.out]
        conv => rhs; rw [← List.take_length (l := R.map (·.row)), List.take_take, List.length_map]
end Go.Proofs.Ytfacpfogdcefpaa
