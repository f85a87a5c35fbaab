/-
  Finishing: the rows that pass.
-/
import Derived.Test.YtfacpfogdcefpaaFinR
namespace Go.Proofs.Ytfacpfogdcefpaa
open Go.RowKit Go.Shelf
set_option linter.unusedSimpArgs false
set_option linter.unusedVariables false
set_option maxRecDepth 100000
attribute [local go_sem] Oper.semAt_some

theorem kpGrown {w w' : World} (h : Kp [] w w') : w.grownBy w' none := ⟨h.os, h.tape, h.output, h.size, fun k hk _ => h.block k hk (by simp)⟩
/-- A copy of a row. -/
theorem cloneV_any (a0 : Option Addr) (c0 n : Nat) (a : List V3) (hn : n = a.length) (w : World) (ha : RdV w a0 c0 a) (hb : n ≤ 1000000) :
    Calls Try.prog 69 #[.slice a0 n c0] w fun e w' => ∃ ad cap, e = .returned (.slice ad n cap) ∧ OwnS vcells 3 w' w.heap.size 38 ad cap a ∧ Kp [] w w' := by
  cases a0 with
  | none =>
    have hz : a = [] := by
      cases a with
      | nil => rfl
      | cons x l => obtain ⟨b, off, h1, -⟩ := ha.2.2 0 (by simp); cases h1
    subst hz
    subst hn
    have heq := fun wx : World => Lib.run_eql_slice_nil (P := Try.prog) wx 36 38 none 0 c0 0 0 Try.underlying36
    clear ha
    go_enter Try.func69, Try.ntmps69
    go_wp2_with fail
    go_ret
    exact ⟨none, 0, rfl, OwnS.nil _ _ _ _ _, Kp.refl _ _⟩
  | some x =>
    have heq := fun wx : World => Lib.run_eql_slice_nil (P := Try.prog) wx 36 38 (some x) n c0 0 0 Try.underlying36
    have HN := Lib.hid hn
    have HR := Lib.hid ha
    clear hn ha
    go_enter Try.func69, Try.ntmps69
    go_wp2_with (at_builtin; refine wpList_appS vlies rfl (.tmp 5) (.tmp 6) 36 36 rfl w.heap.size 38 (.agg #[.int .u8 0, .int .i64 0, .string ⟨#[]⟩]) 32 Try.underlying36 infoVal rfl (some ⟨w.heap.size, 0, none⟩) 0 0 [] rfl a _ n HN.out rfl rfl (.inl ⟨rfl, rfl⟩) (by rw [HN.out]; exact src_rdS vlies (RdV.keep0 HR.out ((Kp.refl [] w).alloc _)) Try.underlying36) (by omega) (by omega) (by simp) ?_; intro ad1 cap1 w1 ho1 kp1 hob1 _; rw [List.nil_append] at ho1)
    go_ret
    exact ⟨ad1, cap1, by simp, ho1, ((Kp.refl [] w).alloc _).trans kp1 (by simp) (by simp [ob])⟩

/-- A test. -/
structure Tst where
  op : Int
  out : Int
  cmp : Int
  v : V3
def tstC (t : Tst) : Array Value := #[.int .u8 t.op, .slice none 0 0, .int .i64 t.out, .int .u8 t.cmp, .int .u8 t.v.k, .int .i64 t.v.n, .string t.v.s]
def tstV (t : Tst) : Value := .agg (tstC t)
theorem passing_any (ra : Option Addr) (m rc : Nat) (t : Tst) (w : World) :
    Calls Try.prog 53 #[.slice ra m rc, tstV t] w fun e w' => e = .returned (.func (.func 67) #[] #[.pointer (some ⟨w.heap.size, 0, none⟩), .pointer (some ⟨w.heap.size + 1, 0, none⟩)]) ∧ w' = (w.alloc (.cells #[.slice ra m rc] 27)).alloc (.cells (tstC t) 53) := by
  unfold tstV tstC
  go_enter Try.func53, Try.ntmps53
  go_wp2_with fail
  go_ret
  exact ⟨rfl, rfl⟩

/-- What the rounds keep: whatever lay below n₁ but for block B, and all values. -/
structure Kq (n₁ B : Nat) (W W' : World) : Prop where
  os : W'.os = W.os
  tape : W'.tape = W.tape
  output : W'.output = W.output
  size : W.heap.size ≤ W'.heap.size
  low : ∀ q : Nat, q < n₁ → q ≠ B → q < W.heap.size → W'.heap[q]? = W.heap[q]?
  vals : ∀ (q : Nat) (cs : Array Value) (fr : Nat × Nat), W.heap[q]? = some (Obj.cells cs 38 fr) → W'.heap[q]? = some (Obj.cells cs 38 fr)
theorem Kq.refl (n₁ B : Nat) (W : World) : Kq n₁ B W W := ⟨rfl, rfl, rfl, Nat.le_refl _, fun _ _ _ _ => rfl, fun _ _ _ h => h⟩
theorem Kq.trans {n₁ B : Nat} {X Y Z : World} (h : Kq n₁ B X Y) (k : Kq n₁ B Y Z) : Kq n₁ B X Z :=
  ⟨k.os.trans h.os, k.tape.trans h.tape, k.output.trans h.output, Nat.le_trans h.size k.size, fun q h1 h2 h3 => (k.low q h1 h2 (Nat.lt_of_lt_of_le h3 h.size)).trans (h.low q h1 h2 h3), fun q cs fr h1 => k.vals q cs fr (h.vals q cs fr h1)⟩
theorem Kq.of_kp {n₁ B : Nat} {W W' : World} (h : Kp [] W W') : Kq n₁ B W W' := ⟨h.os, h.tape, h.output, h.size, fun q _ _ h3 => h.block q h3 (by simp), fun q cs fr h1 => h.get h1 (by simp)⟩
theorem Kq.grown {n₁ B : Nat} {W W' : World} {row : Option Nat} (hg : W.grownBy W' row) (hr : ∀ r, row = some r → n₁ ≤ r ∧ ∃ o : Obj, W.heap[r]? = some o ∧ o.isCells = false) : Kq n₁ B W W' :=
  ⟨hg.os, hg.tape, hg.output, hg.size, fun q h1 _ h3 => hg.block q h3 (fun e => by have := (hr q e.symm).1; omega), fun q cs fr h1 =>
    (hg.block q (lt_of_heap h1) (fun e => by obtain ⟨o, ho, hc⟩ := (hr q e.symm).2; rw [h1] at ho; cases ho; cases hc)).trans h1⟩
theorem Kq.put {n₁ B : Nat} (W : World) (l : Nat) (o o' : Obj) (hl : n₁ ≤ l) (h : W.heap[l]? = some o) (hc : o.isCells = false) : Kq n₁ B W (W.putObj l o') :=
  Kq.grown (grownBy_putObj' W l o') (fun r e => by cases e; exact ⟨hl, o, h, hc⟩)
/-- A row in memory of its own. -/
def GRow (n₁ : Nat) (x : Hd) (W : World) : Prop := x.n = x.row.length ∧ x.row.length ≤ 1000000 ∧ OwnS vcells 3 W n₁ 38 x.ad x.cap x.row
theorem GRow.keep {n₁ B : Nat} {x : Hd} {W W' : World} (h : GRow n₁ x W) (k : Kq n₁ B W W') : GRow n₁ x W' := by
  obtain ⟨h1, h2, h3⟩ := h
  refine ⟨h1, h2, ?_⟩
  rcases h3 with h3 | ⟨g, cur, g1, g2, g3, g4⟩
  · exact .inl h3
  · exact .inr ⟨g, cur, g1, g2, k.vals _ _ _ g3, g4⟩
theorem GRow.ok {n₁ : Nat} {x : Hd} {W : World} (h : GRow n₁ x W) : HdOk W x := ⟨h.1, h.2.2.rd vlies⟩
def Passed (n₁ : Nat) (rows : List (List V3)) (xs : List Hd) (W : World) : Prop := xs.map (·.row) = rows ∧ ∀ x ∈ xs, GRow n₁ x W
theorem gRow_own (n₁ : Nat) : OwnFrom n₁ (GRow n₁) := fun x W W' row h hg hr => h.keep (B := 0) (Kq.grown hg hr)
theorem passed_own (n₁ : Nat) (rows : List (List V3)) : OwnFrom n₁ (Passed n₁ rows) := fun xs W W' row h hg hr => ⟨h.1, fun x hx => (h.2 x hx).keep (B := 0) (Kq.grown hg hr)⟩

set_option maxHeartbeats 2000000 in
/-- The iterator. -/
theorem passing1_in (nn : Nat) (hnn : 2 ≤ nn) (l Bx By Bl n₁ : Nat) (t : Tst) (ra : Option Addr) (rc m : Nat) (hs : List Hd) (hm : m = hs.length) (hmb : m ≤ 1000000) (ps : List V3 → Bool) (J : List Hd → World → Prop) (W : World)
    (hrb : ∀ x ∈ hs, x.row.length ≤ 1000000)
    (hrd : ∀ V, Kq n₁ Bl W V → RdR V ra rc hs)
    (hpass : ∀ x ∈ hs, ∀ V, Kq n₁ Bl W V → Calls Try.prog 68 #[tstV t, .slice x.ad x.n x.cap] V fun e V' => e = .returned (.bool (ps x.row)) ∧ Kp [] V V')
    (hx : ∀ V, Kq n₁ Bl W V → V.cell? ⟨Bx, 0, none⟩ = some (.slice ra m rc)) (hy : ∀ V, Kq n₁ Bl W V → V.heap[By]? = some (.cells (tstC t) 53)) (hn : n₁ ≤ W.heap.size)
    (hJ : AbidesFrom W.heap.size J)
    (hY : ∀ pre x W1, J pre W1 → GRow n₁ x W1 → pre.length < m → YieldAt Fence.wide (nn - 1) Try.prog l #[.slice x.ad x.n x.cap] W1 fun e W' => e = .returned (.bool true) ∧ J (pre ++ [x]) W' ∧ Kq n₁ Bl W1 W') (h0 : J [] W) :
    CallsIn Fence.wide nn Try.prog 67 #[.func (.yield l) #[] #[], .pointer (some ⟨Bx, 0, none⟩), .pointer (some ⟨By, 0, none⟩)] W fun e W' => (∃ v, e = .returned v) ∧ ∃ xs, Passed n₁ ((hs.map (·.row)).filter ps) xs W' ∧ J xs W' := by
  refine callsIn_of_wp Try.func67 rfl trivial ?_ rfl
  simp only [Try.ntmps67, List.size_toArray, List.length_cons, List.length_nil, Nat.reduceAdd, Nat.reduceSub, Array.replicate_succ, Array.replicate_zero, List.push_toArray, List.append_toArray, List.nil_append, List.cons_append]
  have hx0 := hx W (Kq.refl _ _ _)
  have HRD := Lib.hid hrd
  have HPASS := Lib.hid hpass
  have HX := Lib.hid hx
  have HY := Lib.hid hy
  have HM := Lib.hid hm
  have HRB := Lib.hid hrb
  have HJ := Lib.hid hJ
  have HYY := Lib.hid hY
  clear hrd hpass hx hy hm hrb hJ hY
  gi_wp2
  gi_loopw [8] (fun i wr => ∃ (k : Nat) (pre : List Hd), k ≤ m ∧ i = .int .i64 k ∧ Hid (J pre wr) ∧ Hid (Kq n₁ Bl W wr) ∧ Hid (Passed n₁ (((hs.take k).map (·.row)).filter ps) pre wr)) (fun i _ => m - (intOf i).toNat)
  case atStart => exact ⟨0, [], Nat.zero_le _, rfl, Lib.hid h0, Lib.hid (Kq.refl _ _ _), Lib.hid ⟨by simp, by simp⟩⟩
  case round =>
    obtain ⟨k, pre, hk, rfl, HJP, HK, HP⟩ := hrel
    by_cases hlt : k < m
    · have hkl : k < hs.length := by rw [← HM.out]; exact hlt
      obtain ⟨x, hxe⟩ : ∃ x, x = hs[k] := ⟨_, rfl⟩
      have hxm : x ∈ hs := by rw [hxe]; exact List.getElem_mem _
      have HTK : Hid ((hs.take (k + 1)).map (·.row) = (hs.take k).map (·.row) ++ [x.row]) := Lib.hid (by rw [List.take_succ_eq_append_getElem hkl, List.map_append, ← hxe]; rfl)
      obtain ⟨b, off, rfl, c0⟩ := RdS.at1 (HRD.out wr HK.out).1 k hkl
      rw [← hxe] at c0
      have HPX := Lib.hid (HPASS.out x hxm)
      have hxb := HRB.out x hxm
      have HOK : Hid (∀ V, Kq n₁ Bl W V → HdOk V x) := Lib.hid (fun V hV => (HRD.out V hV).2 x hxm)
      clear hxe hxm
      obtain ⟨xa, xn, xc, xr⟩ := x
      dsimp only at c0 hxb HTK HPX
      have c1 := HY.out wr HK.out
      have HPB := HPX.out wr HK.out
      obtain ⟨q, hq⟩ : ∃ q, q = ps xr := ⟨_, rfl⟩
      rw [← hq] at HPB
      have HQ := Lib.hid hq
      clear hq
      unfold tstV tstC at HPB
      unfold tstC at c1
      have e0 := cell_of_row wr By 0 _ _ _ c1
      have e1 := cell_of_row wr By 1 _ _ _ c1
      have e2 := cell_of_row wr By 2 _ _ _ c1
      have e3 := cell_of_row wr By 3 _ _ _ c1
      have e4 := cell_of_row wr By 4 _ _ _ c1
      have e5 := cell_of_row wr By 5 _ _ _ c1
      have e6 := cell_of_row wr By 6 _ _ _ c1
      simp at e0 e1 e2 e3 e4 e5 e6
      clear c1
      have hd1 : 1 ≤ nn := by omega
      have hd2 : 1 ≤ nn - 1 := by omega
      cases q
      · gi_wp2
        refine ⟨trivial, (callsIn_wide.2 HPB).mono ?_⟩
        rintro e w7 ⟨rfl, kp7⟩
        have KQ7 : Hid (Kq n₁ Bl W w7) := Lib.hid (HK.out.trans (Kq.of_kp kp7))
        have HJ7 : Hid (J pre w7) := Lib.hid (HJ.out _ _ _ none HJP.out (kpGrown kp7) (by intro r hr; cases hr))
        have HP7 : Hid (Passed n₁ (((hs.take (k + 1)).map (·.row)).filter ps) pre w7) := Lib.hid (by
          rw [HTK.out, List.filter_append, List.filter_cons_of_neg (by rw [← HQ.out]; simp), List.filter_nil, List.append_nil]
          exact ⟨HP.out.1, fun x hx => (HP.out.2 x hx).keep (B := Bl) (Kq.of_kp kp7)⟩)
        clear kp7
        gi_wp2
        refine ⟨trivial, ?_⟩
        gi_wp2
        refine ⟨fun _ h => (by cases h), ?_⟩
        gi_wp2
        go_roundw
        case rel => exact ⟨k + 1, pre, hlt, by go_num, HJ7, KQ7, HP7⟩
        case measure => simp [intOf]; omega
      · gi_wp2
        refine ⟨trivial, (callsIn_wide.2 HPB).mono ?_⟩
        rintro e w7 ⟨rfl, kp7⟩
        have KQ7 : Hid (Kq n₁ Bl W w7) := Lib.hid (HK.out.trans (Kq.of_kp kp7))
        have HJ7 : Hid (J pre w7) := Lib.hid (HJ.out _ _ _ none HJP.out (kpGrown kp7) (by intro r hr; cases hr))
        have HP7 : Hid (Passed n₁ (((hs.take k).map (·.row)).filter ps) pre w7) := Lib.hid ⟨HP.out.1, fun x hx => (HP.out.2 x hx).keep (B := Bl) (Kq.of_kp kp7)⟩
        have HCL := cloneV_any xa xc xn xr (HOK.out w7 KQ7.out).1 w7 (HOK.out w7 KQ7.out).2 (by have := (HOK.out w7 KQ7.out).1; dsimp only at this; omega)
        clear kp7
        gi_wp2
        refine ⟨trivial, (callsIn_wide.2 HCL).mono ?_⟩
        rintro e w8 ⟨ca, cc, rfl, hown, kp8⟩
        have hxn : xn = xr.length := (HOK.out w7 KQ7.out).1
        have KQ8 : Hid (Kq n₁ Bl W w8) := Lib.hid (KQ7.out.trans (Kq.of_kp kp8))
        have hJ8 : J pre w8 := HJ.out _ _ _ none HJ7.out (kpGrown kp8) (by intro r hr; cases hr)
        have hG8 : GRow n₁ ⟨ca, xn, cc, xr⟩ w8 := ⟨hxn, hxb, hown.mono (Nat.le_trans hn KQ7.out.size)⟩
        have HP8 : Hid (Passed n₁ (((hs.take k).map (·.row)).filter ps) pre w8) := Lib.hid ⟨HP7.out.1, fun x hx => (HP7.out.2 x hx).keep (B := Bl) (Kq.of_kp kp8)⟩
        have HG8 := Lib.hid hG8
        have hpl : pre.length < m := by
          have h1 := congrArg List.length HP.out.1
          have h2 := List.length_filter_le ps ((hs.take k).map (·.row))
          simp only [List.length_map, List.length_take] at h1 h2
          omega
        obtain ⟨fn, tmps, assign, body, hy, hR⟩ := HYY.out pre ⟨ca, xn, cc, xr⟩ w8 hJ8 hG8 hpl
        dsimp only at hy
        clear hG8 hown kp8 hJ8 hxn HCL
        gi_wp2
        refine hR.mono ?_
        rintro e w9 ⟨rfl, hJ9, hk9⟩
        have HJ9 := Lib.hid hJ9
        have HK9 := Lib.hid hk9
        clear hJ9 hk9 hR
        gi_wp2
        go_roundw
        case rel =>
          refine ⟨k + 1, pre ++ [⟨ca, xn, cc, xr⟩], hlt, by go_num, HJ9, Lib.hid (KQ8.out.trans HK9.out), Lib.hid ⟨?_, fun x hx => ?_⟩⟩
          · rw [HTK.out, List.filter_append, List.filter_cons_of_pos (by rw [← HQ.out]), List.filter_nil, List.map_append, HP8.out.1]; rfl
          · rcases List.mem_append.1 hx with hx | hx
            · exact (HP8.out.2 x hx).keep HK9.out
            · simp at hx; subst hx; exact HG8.out.keep HK9.out
        case measure => simp [intOf]; omega
    · obtain rfl : k = m := by omega
      gi_wp2
      go_end0
      exact ⟨⟨_, rfl⟩, pre, by have := HP.out; rwa [HM.out, List.take_length] at this, HJP.out⟩
end Go.Proofs.Ytfacpfogdcefpaa
