/-
  Sections: the image; how it is written.
-/
import Derived.Test.YtegnobdablbahaaSec4
import Derived.Test.YtegnobdablbahaaCrc5
import Derived.Laws.IdiomStrings
namespace Go.Proofs.Ytegnobdablbahaa
open Go.RowKit
set_option linter.unusedSimpArgs false
set_option linter.unusedVariables false

section
variable {P : Program}
/-- append to a slice without room. -/
theorem rd_grow (w : World) (t tx ty e : TypeId) (k : IntKind) (by' base : Nat) (ht : P.underlying t = some (.slice e)) (hi : (P.info? e).map (fun i => (i.zero, i.size, i.bytes)) = some (some (.int k 0), 1, by'))
    (ad : Option Addr) (cap : Nat) (zs news : List Int) (x : Value) (m : Nat) (hm : m = news.length) (hrd : Rd w k ad cap zs) (hroom : cap < zs.length + m) (hs : Src P 1 tx x m (news.map (Value.int k)) w) (hb : (zs.length + m) * by' ≤ 140737488355328) (hn : zs.length + m ≤ 9223372036854775807) (hbase : base ≤ w.heap.size) :
    ∃ ad' cap' w', (Builtin.append_ #[t, tx] ty #[.slice ad zs.length cap, x]).run P w = .ok (.slice ad' (zs.length + m) cap') w' ∧ Own w' base e k ad' cap' (zs ++ news) ∧ Kp [] w w' := by
  obtain ⟨i, h1, h2, h3, h4⟩ := info_parts hi
  subst hm
  have hold : (Builtin.firstCells i.size zs.length (.slice ad zs.length cap)).run P w.drew = .ok (zs.map (Value.int k)).toArray w.drew := by
    rw [h3]
    cases ad with
    | none =>
      have : zs = [] := by
        cases zs with
        | nil => rfl
        | cons y l => obtain ⟨b, off, q1, -⟩ := hrd.2.2 0 (by simp); cases q1
      subst this
      exact run_firstCells_none w.drew 1 _ _ _
    | some a =>
      refine run_firstCells_some w.drew 1 zs.length _ _ _ _ (by simp) (fun j u hj => ?_)
      obtain ⟨hl, hj⟩ := List.getElem?_eq_some_iff.1 hj
      simp at hl
      obtain ⟨b', off', q1, q2⟩ := hrd.2.2 j hl
      cases q1
      rw [Addr.add_lit]
      show w.cell? _ = _
      rw [q2, ← hj]; simp [nth, hl]
  have hfit : Builtin.nextslicecap (zs.length + news.length) cap * i.bytes ≤ 281474976710656 := by
    rw [h4]; exact growslice_fits (by omega) hb
  have := run_append_grow_src (P := P) w t tx ty e i (.int k 0) ht h1 h2 ad zs.length cap (zs.map (Value.int k)) hold x news.length (news.map (Value.int k)) (by rw [h3]; exact hs) (by omega) (by omega) hfit
  have hge := grownCap_ge w (zs.length + news.length) cap e
  have hle := grownCap_le_maxLen w (zs.length + news.length) cap e (by unfold maxLen; omega)
  refine ⟨_, _, _, this, .inr ⟨w.heap.size, _, rfl, hbase, heap_alloc_at (by simp), ?_, by simpa using hge, ?_, ?_⟩, ((Kp.refl _ w).drew.alloc _)⟩
  · simp [size_zeroCells, Value.cells]; omega
  · unfold maxLen at hle; omega
  · simp only [Array.toList_append, List.map_append]; exact List.take_left' (by simp)

theorem wpList_growR {ops : Array Oper} {rest : List Oper} {o : Oper} {a : Act} {Q : Exit → Act → World → Prop} {w : World} (hgd : o.guard = none) (s x : Operand) (t tx : TypeId)
    (hop : o.op = Op.call { callee := Callee.builtin Builtin.append, args := #[s, x], argTypes := #[t, tx] }) (base : Nat) (e : TypeId) (k : IntKind) (by' : Nat)
    (ht : P.underlying t = some (.slice e)) (hi : (P.info? e).map (fun i => (i.zero, i.size, i.bytes)) = some (some (.int k 0), 1, by'))
    (ad : Option Addr) (cap n : Nat) (zs : List Int) (hn : n = zs.length) (news : List Int) (xv : Value) (m : Nat) (hm : m = news.length) (he : a.eval s = .slice ad n cap) (hxe : a.eval x = xv)
    (hrd : Rd w k ad cap zs) (hroom : cap < n + m) (hs : Src P 1 tx xv m (news.map (Value.int k)) w) (hb : (n + m) * by' ≤ 140737488355328) (hb2 : n + m ≤ 9223372036854775807) (hbase : base ≤ w.heap.size)
    (h : ∀ ad' cap' w', Own w' base e k ad' cap' (zs ++ news) → Kp [] w w' → wpList P ops Q rest (a.put o.dst (.slice ad' (n + m) cap')) w') :
    wpList P ops Q (o :: rest) a w := by
  subst hn
  refine wpList_plain hgd fun K hK => ?_
  obtain ⟨ad', cap', w', hrun, r1, r2⟩ := rd_grow (P := P) w t tx o.type e k by' base ht hi ad cap zs news xv m hm hrd hroom hs hb hb2 hbase
  unfold Oper.wp
  simp [execOp, hop, resolve, invoke, builtin, he, hxe, hrun, Result.andThen]
  exact hK _ _ (h ad' cap' w' r1 r2)
end

/-- []byte(s), in any world. -/
theorem conv_bytes_fn (s : ByteArray) (hs : s.size ≤ 1000000) : ∃ (cp : World → Nat) (ww : World → World), ∀ wx, (convert 9 39 (.string s)).run Try.prog wx = .ok (.slice (some ⟨wx.heap.size, 0, none⟩) s.size (cp wx)) (ww wx) ∧ Rd (ww wx) .u8 (some ⟨wx.heap.size, 0, none⟩) (cp wx) (sbytes s) ∧ Kp [] wx (ww wx) := by
  refine ⟨fun w => grownCap w s.size 0 5, fun w => w.drew.alloc (.cells (bytesRow s (grownCap w s.size 0 5)) 5 ((bytesRow s (grownCap w s.size 0 5)).size, (bytesRow s (grownCap w s.size 0 5)).size + 1)), fun w => ?_⟩
  have hge := grownCap_ge w s.size 0 5
  have hle := grownCap_le_maxLen w s.size 0 5 (by unfold maxLen; omega)
  refine ⟨run_bytes_of_string (P := Try.prog) w 9 39 5 s Try.underlying9 Try.underlying39 Try.underlying5, ⟨?_, ?_, fun i hi => ⟨w.heap.size, 0, rfl, ?_⟩⟩, (Kp.refl [] w).drew.alloc _⟩
  · rw [sbytes_length]; omega
  · unfold maxLen at hle; omega
  · rw [sbytes_length] at hi
    rw [Nat.zero_add, cell_of_row _ w.heap.size i _ _ _ (heap_alloc_at (by simp)), bytesRow_at _ _ _ hi]
    simp only [nth, sbytes, List.getD_eq_getElem?_getD, List.getElem?_map]
    rw [Array.getElem?_toList, Array.getElem?_eq_getElem hi]; rfl

/-- One section's bytes in an image. -/
def secB (x : Sec) : List Int := [(x.nm.size : Int)] ++ sbytes x.nm ++ frB x.bs
/-- What stands ahead of the sections. -/
def headB (n : Nat) : List Int := [73, 83, 71, 76] ++ le n 2
/-- The image. -/
def imgB (l : List Sec) : List Int := headB l.length ++ l.flatMap secB
/-- What may be written. -/
def XMay (l : List Sec) : Prop := l.length ≤ 2000 ∧ ∀ x ∈ l, 1 ≤ x.nm.size ∧ x.nm.size ≤ 20 ∧ x.bs.length ≤ 1073741824
theorem XMay.at' {l : List Sec} (h : XMay l) (i : Nat) (hi : i < l.length) : 1 ≤ (atX l i).nm.size ∧ (atX l i).nm.size ≤ 20 ∧ (atX l i).bs.length ≤ 1073741824 := by rw [atX_eq l i hi]; exact h.2 _ (List.getElem_mem _)
theorem isNm_size {s : ByteArray} (h : isNm s = true) : 1 ≤ s.size ∧ s.size ≤ 20 := by
  simp only [isNm, isNmG, Bool.and_eq_true, decide_eq_true_eq] at h; exact h.2
theorem may_zero {l : List Sec} {bad : Nat → Bool} (h : mayG l bad = 0) : upto l.length bad = false ∧ l.length ≤ 2000 ∧ upto l.length (dupI l) = false := by
  unfold mayG at h
  split at h
  · cases h
  · rename_i h1
    split at h
    · cases h
    · split at h
      · cases h
      · rename_i h3; exact ⟨by simpa using h1, by omega, by simpa using h3⟩
theorem mayP_ok {l : List Sec} (h : mayP l = 0) : XMay l := by
  obtain ⟨h1, h2, -⟩ := may_zero h
  refine ⟨h2, fun x hx => ?_⟩
  obtain ⟨i, hi, rfl⟩ := List.getElem_of_mem hx
  have h3 := upto_no hi h1
  rw [badI, atX_eq l i hi, Bool.or_eq_false_iff] at h3
  have h4 := isNm_size (s := l[i].nm) (by simpa using h3.1)
  exact ⟨h4.1, h4.2, by simpa using h3.2⟩
/-- The image up to the k-th section. -/
def imgK (l : List Sec) (k : Nat) : List Int := headB l.length ++ (l.take k).flatMap secB
theorem imgK_step (l : List Sec) (k : Nat) (h : k < l.length) : imgK l (k + 1) = imgK l k ++ secB (atX l k) := by
  rw [imgK, List.take_succ_eq_append_getElem h, atX_eq l k h, List.flatMap_append]; simp [imgK]
theorem imgK_all (l : List Sec) : imgK l l.length = imgB l := by rw [imgK, List.take_length, imgB]
theorem secB_length (x : Sec) : (secB x).length = 9 + x.nm.size + x.bs.length := by simp [secB, sbytes_length, frB_length]; omega
theorem imgK_length (l : List Sec) (k : Nat) (h : XMay l) : k ≤ l.length → 6 ≤ (imgK l k).length ∧ (imgK l k).length ≤ 6 + 1073741900 * k := by
  induction k with
  | zero => intro _; simp [imgK, headB, le_length]
  | succ k ih =>
    intro hk
    have h1 := ih (by omega)
    have h2 := h.at' k (by omega)
    rw [imgK_step l k hk, List.length_append, secB_length]; omega

set_option maxHeartbeats 800000 in
set_option maxRecDepth 100000 in
theorem r21Image_any (ad : Option Addr) (cap n : Nat) (l : List Sec) (hn : n = l.length) (w : World) (h : RdX w ad cap l) (hs : RdXs w l) (ho : XOk l) (hm : XMay l) :
    Calls Try.prog 37 #[.slice ad n cap] w fun e w' => ∃ ad' cap', e = .returned (.slice ad' (imgB l).length cap') ∧ Own w' w.heap.size 5 .u8 ad' cap' (imgB l) ∧ Kp [] w w' := by
  have H := Lib.hid h
  have HS := Lib.hid hs
  have HN := Lib.hid hn
  have HM := Lib.hid hm
  have hcap := h.1
  rw [← hn] at hcap
  have hcap2 := h.2.1
  have hn2 : n ≤ 2000 := by rw [hn]; exact hm.1
  have hw : IntKind.u64.wrap (n : Int) = (n : Int) := by rw [IntWalk.u64_in _ (by omega)]
  clear h hn hs hm
  have hcv := fun wx : World => Go.Joins.run_convert_bytes_const_at (P := Try.prog) wx 39 5 (ints .u8 [73, 83, 71, 76]) 4 4 wx.heap.size rfl Try.underlying39 Try.underlying5
  simp only [ints, List.map_cons, List.map_nil] at hcv
  go_enter Try.func37, Try.ntmps37
  go_wp2_with fail
  refine (little_any n 2 _ (by omega) (by omega)).mono ?_
  rintro e w1 ⟨ad1, cap1, rfl, ho1, kp1⟩
  have hr0 : Rd w1 .u8 (some ⟨w.heap.size, 0, none⟩) 4 [73, 83, 71, 76] := (rd_row (heap_alloc_at rfl) (by decide)).keep0 kp1
  have HR0 := Lib.hid hr0
  have HO1 := Lib.hid ho1
  have HK1 := Lib.hid (((Kp.refl [] w).alloc _).tr kp1)
  have hs1 := HK1.out.size
  clear ho1 kp1 hr0
  go_wp2_with (at_builtin; refine wpList_growR rfl (.tmp 6) (.tmp 10) 39 39 rfl w.heap.size 5 .u8 1 Try.underlying39 infoU8 _ 4 4 [73, 83, 71, 76] rfl (le n 2) _ 2 (by simp [le_length]) rfl rfl HR0.out (by omega) (by have := src_rd HO1.out.rd (tx := 39) (e' := 5) Try.underlying39; rw [le_length] at this; exact this) (by omega) (by omega) hs1 ?_; intro ad2 cap2 w2 ho2 kp2; have HO2 := Lib.hid ho2; have HK2 := Lib.hid (HK1.out.tr kp2); clear ho2 kp2)
  go_loopw [3, 4] (fun vb vi wr => ∃ (k m : Nat) (ad' : Option Addr) (cap' : Nat), k ≤ n ∧ vi = .int .i64 k ∧ vb = .slice ad' m cap' ∧ m ≤ 6 + 1073741900 * k ∧ Hid (m = (imgK l k).length) ∧ Hid (Own wr w.heap.size 5 .u8 ad' cap' (imgK l k)) ∧ Hid (Kp [] w wr)) (fun _ vi _ => n - (intOf vi).toNat)
  case atStart =>
    have e0 : imgK l 0 = [73, 83, 71, 76] ++ le n 2 := by rw [HN.out]; simp [imgK, headB]
    exact ⟨0, 6, ad2, cap2, Nat.zero_le _, rfl, rfl, by omega, Lib.hid (by rw [e0]; simp [le_length]), Lib.hid (by rw [e0]; exact HO2.out), HK2⟩
  case round =>
    obtain ⟨k, m, ad', cap', hk, rfl, rfl, hm, HL, HO, HK⟩ := hrel
    by_cases hlt : k < n
    · have hkl : k < l.length := by rw [← HN.out]; exact hlt
      obtain ⟨b, off, rfl, c0, c1⟩ := (H.out.keep0 HK.out).atX k hkl
      have hx1 := HS.out (atX l k) (by rw [atX_eq l k hkl]; exact List.getElem_mem _)
      have hb1 := (ho.at' k hkl).1
      obtain ⟨hz1, hz2, hz3⟩ := HM.out.at' k hkl
      have hst := imgK_step l k hkl
      obtain ⟨x, hx⟩ : ∃ x, x = atX l k := ⟨_, rfl⟩
      rw [← hx] at c0 c1 hx1 hb1 hz1 hz2 hz3 hst
      have hw8 : IntKind.u8.wrap (x.nm.size : Int) = (x.nm.size : Int) := by rw [IntWalk.u8_in _ (by omega)]
      obtain ⟨cp, ww, hcw⟩ := conv_bytes_fn x.nm (by omega)
      have hcv2 := fun wx => (hcw wx).1
      have HCW := Lib.hid hcw
      have HX := Lib.hid hx1
      have HST := Lib.hid hst
      have HB := Lib.hid hb1
      have hwr := HK.out.size
      have HXX := Lib.hid hx
      have HKL := Lib.hid hkl
      clear hx hkl hx1 hst hb1 hcw hcv
      have ha1 : Own (wr.alloc (Obj.cells #[Value.int .u8 (x.nm.size : Int)] 5)) w.heap.size 5 .u8 ad' cap' (imgK l k) := HO.out.alloc _
      go_wp2_with first
        | (at_builtin; refine wpList_app rfl (.tmp 18) (.tmp 26) 39 39 rfl w.heap.size 5 .u8 1 Try.underlying39 infoU8 ad' cap' m (imgK l k) HL.out [(x.nm.size : Int)] _ 1 rfl rfl rfl ha1 (src_one Try.underlying39 (World.cell?_alloc_at _ _ _ _ rfl)) (by omega) (by omega) (by simp; omega) ?_; intro ad3 cap3 w3 ho3 kp3 hob3 _; have HO3 := Lib.hid ho3; have HK3 := Lib.hid ((HK.out.alloc _).trans kp3 (U := []) (by simp) (fun y hy => .inr (HO.out.ob_ge y hy).1)); have hs3 := Nat.le_trans (Nat.le_trans hwr (by simp)) kp3.size; obtain ⟨b3, off3, e3, d0, d1⟩ := (H.out.keep0 HK3.out).atX k HKL.out; cases e3; rw [← HXX.out] at d0 d1; clear ho3 kp3 hob3)
        | (at_builtin; refine wpList_app rfl (.tmp 28) (.tmp 34) 39 39 rfl w.heap.size 5 .u8 1 Try.underlying39 infoU8 ad3 cap3 (m + 1) (imgK l k ++ [(x.nm.size : Int)]) (by rw [List.length_append, ← HL.out]; rfl) (sbytes x.nm) _ x.nm.size (sbytes_length _).symm rfl rfl (HO3.out.keep0 (HCW.out w3).2.2) (by have := src_rd (HCW.out w3).2.1 (tx := 39) (e' := 5) Try.underlying39; rw [sbytes_length] at this; exact this) (by omega) (by omega) (Nat.le_trans hs3 (HCW.out w3).2.2.size) ?_; intro ad4 cap4 w4 ho4 kp4 hob4 _; have HO4 := Lib.hid ho4; have HK4 := Lib.hid ((HK3.out.tr (HCW.out w3).2.2).trans kp4 (U := []) (by simp) (fun y hy => .inr (HO3.out.ob_ge y hy).1)); have hs4 := HK4.out.size; obtain ⟨b4, off4, e4, d2, d3⟩ := (H.out.keep0 HK4.out).atX k HKL.out; cases e4; rw [← HXX.out] at d2 d3; clear ho4 kp4 hob4 d0 d1)
      refine (r03Frame_any x.ad x.cap x.bs.length x.bs rfl _ (HX.out.keep0 HK4.out) HB.out hz3).mono ?_
      rintro e w5 ⟨ad5, cap5, rfl, ho5, kp5⟩
      have HO5 := Lib.hid ho5
      have HK5 := Lib.hid (HK4.out.tr kp5)
      have HO6 := Lib.hid (HO4.out.keep0 kp5)
      have hs5 := HK5.out.size
      clear ho5 kp5
      go_wp2_with (at_builtin; refine wpList_app rfl (.tmp 36) (.tmp 42) 39 39 rfl w.heap.size 5 .u8 1 Try.underlying39 infoU8 ad4 cap4 (m + 1 + x.nm.size) (imgK l k ++ [(x.nm.size : Int)] ++ sbytes x.nm) (by rw [List.length_append, List.length_append, ← HL.out, sbytes_length]; rfl) (frB x.bs) _ (x.bs.length + 8) (frB_length _).symm rfl rfl HO6.out (by have := src_rd HO5.out.rd (tx := 39) (e' := 5) Try.underlying39; rw [frB_length] at this; exact this) (by omega) (by omega) hs5 ?_; intro ad6 cap6 w6 ho6 kp6 hob6 _; have HO7 := Lib.hid ho6; have HK6 := Lib.hid (HK5.out.trans kp6 (U := []) (by simp) (fun y hy => .inr (HO6.out.ob_ge y hy).1)); clear ho6 kp6 hob6)
      go_roundw
      case rel =>
        have e1 : imgK l (k + 1) = imgK l k ++ [(x.nm.size : Int)] ++ sbytes x.nm ++ frB x.bs := by rw [HST.out, secB]; simp only [List.append_assoc]
        refine ⟨k + 1, m + 1 + x.nm.size + (x.bs.length + 8), ad6, cap6, hlt, by go_num, rfl, by omega, Lib.hid ?_, Lib.hid ?_, HK6⟩
        · rw [e1]; simp only [List.length_append, ← HL.out, sbytes_length, frB_length]; rfl
        · rw [e1]; exact HO7.out
      case measure => simp [intOf]; omega
    · obtain rfl : k = n := by omega
      go_wp2_with fail
      go_ret
      have e1 : imgK l k = imgB l := by rw [HN.out]; exact imgK_all l
      have h1 := HL.out
      have h2 := HO.out
      rw [e1] at h1 h2
      exact ⟨ad', cap', by rw [← h1]; rfl, h2, HK.out⟩
end Go.Proofs.Ytegnobdablbahaa
