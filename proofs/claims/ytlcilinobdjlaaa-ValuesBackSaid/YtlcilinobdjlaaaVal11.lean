/-
  Values: what the document reads; its bytes.
-/
import Derived.Test.YtlcilinobdjlaaaVal10
import Derived.Laws.IdiomStrings
namespace Go.Proofs.Ytlcilinobdjlaaa
open Go.RowKit
set_option linter.unusedSimpArgs false
set_option linter.unusedVariables false

/-- []byte(s). -/
theorem conv_bytes (w : World) (s : ByteArray) (hs : s.size ≤ 1000000) : ∃ w' cap, (convert 9 22 (.string s)).run Try.prog w = .ok (.slice (some ⟨w.heap.size, 0, none⟩) s.size cap) w' ∧ Rd w' .u8 (some ⟨w.heap.size, 0, none⟩) cap (sbytes s) ∧ Kp [] w w' := by
  have hge := grownCap_ge w s.size 0 5
  have hle := grownCap_le_maxLen w s.size 0 5 (by unfold maxLen; omega)
  refine ⟨_, _, run_bytes_of_string (P := Try.prog) w 9 22 5 s Try.underlying9 Try.underlying22 Try.underlying5, ⟨?_, ?_, fun i hi => ⟨w.heap.size, 0, rfl, ?_⟩⟩, (Kp.refl [] w).drew.alloc _⟩
  · rw [sbytes_length]; omega
  · unfold maxLen at hle; omega
  · rw [sbytes_length] at hi
    rw [Nat.zero_add, cell_of_row _ w.heap.size i _ _ _ (heap_alloc_at (by simp)), bytesRow_at _ _ _ hi]
    simp only [nth, sbytes, List.getD_eq_getElem?_getD, List.getElem?_map]
    rw [Array.getElem?_toList, Array.getElem?_eq_getElem hi]; rfl
def SVS.rdE (k : IntKind) (n : Nat) (zs : List Int) : SVS [] := ⟨fun v u => ∃ ad cap, v = .slice ad n cap ∧ Rd u k ad cap zs, fun _ _ _ ⟨ad, cap, h1, h2⟩ hk => ⟨ad, cap, h1, h2.keep0 hk⟩⟩

theorem r10Read_none {L : Nat → Prop} (p : Nat) (bs : List Int) (a : Nat) (b : Bool) (kd : Int) (w : World) (h : Rdr01 w L p bs a b) (h1 : ¬ kd = 1) (h2 : ¬ kd = 2) :
    Calls Try.prog 30 #[.pointer (some ⟨p, 0, none⟩), .int .u8 kd] w fun e w' => e = .returned (.tuple #[zeroV, .bool false]) ∧ Rdr01 w' L p bs a b ∧ Kp [] w w' := by
  have H := Lib.hid h
  have e1 : (kd == 1) = false := by simpa using h1
  have e2 : (kd == 2) = false := by simpa using h2
  clear h h1 h2
  go_enter Try.func30, Try.ntmps30
  go_wp2_with fail
  exact bodyPost_ret (v := .tuple #[zeroV, .bool false]) (results_cell_tmp Try.results30 _ _ w.heap.size 36 _ (0, 0) _ rfl (cells_alloc (heap_alloc_at rfl)) Try.underlying36 rfl (by kernel_rfl)) rfl ⟨rfl, H.out.keep (((Kp.refl [] w).alloc _).alloc _), ((Kp.refl [] w).alloc _).alloc _⟩

set_option maxRecDepth 10000 in
set_option maxHeartbeats 800000 in
theorem r10Read_int {L : Nat → Prop} (p : Nat) (bs : List Int) (a : Nat) (b : Bool) (w : World) (h : Rdr01 w L p bs a b) (hb : Bytes8 bs) (hL : ∀ x, L x → x < w.heap.size) :
    Calls Try.prog 30 #[.pointer (some ⟨p, 0, none⟩), .int .u8 1] w fun e w' => e = .returned (.tuple #[rvI bs a b, .bool (!rdB bs a b 8)]) ∧ Rdr01 w' L p bs (rdA bs a b 8) (rdB bs a b 8) ∧ Kp [p] w w' := by
  have H := Lib.hid h
  have hp := hL p h.lt
  have HL := Lib.hid hL
  clear h hL
  go_enter Try.func30, Try.ntmps30
  go_wp2_with fail
  obtain ⟨w2, hw2⟩ : ∃ w2, w2 = (w.alloc (Obj.cells #[Value.int IntKind.u8 0, Value.int IntKind.i64 0, Value.string ⟨#[]⟩] 36)).alloc (Obj.cells #[Value.int IntKind.u8 1, Value.int IntKind.i64 0, Value.string ⟨#[]⟩] 36) := ⟨_, rfl⟩
  rw [← hw2]
  have k2 : Kp [] w w2 := by rw [hw2]; exact ((Kp.refl [] w).alloc _).alloc _
  have h4 : w2.heap[w.heap.size]? = some (.cells #[.int .u8 0, .int .i64 0, .string ⟨#[]⟩] 36) := by rw [hw2]; exact cells_alloc (heap_alloc_at rfl)
  have h6 : w2.heap[w.heap.size + 1]? = some (.cells #[.int .u8 1, .int .i64 0, .string ⟨#[]⟩] 36) := by rw [hw2]; exact heap_alloc_at (by simp)
  clear hw2
  refine (r01number_any p bs a b 8 _ (H.out.keep k2) hb (by omega)).mono ?_
  rintro e w3 ⟨rfl, h3, k3⟩
  obtain ⟨v, hv⟩ : ∃ v, v = rdN bs a b 8 := ⟨_, rfl⟩
  obtain ⟨a1, ha1⟩ : ∃ a1, a1 = rdA bs a b 8 := ⟨_, rfl⟩
  obtain ⟨b1, hb1⟩ : ∃ b1, b1 = rdB bs a b 8 := ⟨_, rfl⟩
  rw [← hv]
  rw [← ha1, ← hb1] at h3
  have HV := Lib.hid (And.intro hv (And.intro ha1 hb1))
  obtain ⟨z, hz⟩ : ∃ z, z = wrap64 (v : Int) := ⟨_, rfl⟩
  have HZ := Lib.hid hz
  have hz2 := hz.symm
  have H43 := Lib.hid (k3.get h4 (by simp; omega))
  have h63 := k3.get h6 (by simp; omega)
  have c6 := cell_of_row w3 _ 1 _ _ _ h63
  have f6 := frozen_of_row w3 _ 1 _ _ h63
  simp only [List.getElem?_toArray, List.getElem?_cons_succ, List.getElem?_cons_zero] at c6
  have h64 := heap_setCell_same w3 (w.heap.size + 1) 1 _ 36 (.int .i64 z) h63
  have k4 := (Kp.refl [w.heap.size + 1] w3).setCell ⟨w.heap.size + 1, 1, none⟩ (.int .i64 z) (by simp)
  have h34 := h3.keepS k4 (by intro x hx hl; simp at hx; have := HL.out x hl; omega)
  have H44 := Lib.hid (k4.get H43.out (by simp))
  have HK4 := Lib.hid (((k2.trans k3 (U := [p]) (by simp) (fun x hx => .inl hx))).setCell ⟨w.heap.size + 1, 1, none⟩ (.int .i64 z) (.inr (by simp)))
  obtain ⟨-, cb, -, -⟩ := h34.c2
  have H64 := Lib.hid h64
  have H34 := Lib.hid h34
  clear hv ha1 hb1 hz k2 k3 k4 h3 h4 h6 h63 h64 h34
  cases b1 with
  | true =>
    go_wp2_with (refine wpList_store_row rfl 36 _ _ rfl w.heap.size #[.int .u8 0, .int .i64 0, .string ⟨#[]⟩] rfl rfl 36 _ H44.out (by kernel_rfl) rfl (by simp [Value.oneCell']) ?_)
    refine bodyPost_ret (v := .tuple #[zeroV, .bool false]) (results_cell_tmp Try.results30 _ _ w.heap.size 36 #[.int .u8 0, .int .i64 0, .string ⟨#[]⟩] (0, 0) _ rfl (setRow_heap _ w.heap.size _ _ _ _ H44.out) Try.underlying36 rfl (by kernel_rfl)) rfl ⟨?_, ?_, ?_⟩
    · rw [rvI, ← HV.out.2.2]; rfl
    · rw [← HV.out.2.1, ← HV.out.2.2]
      exact H34.out.keepS ((Kp.refl [w.heap.size] _).setRow _ _ (.inl (by simp))) (by intro x hx hl; simp at hx; have := HL.out x hl; omega)
    · exact HK4.out.setRow _ _ (.inr (Nat.le_refl _))
  | false =>
    go_wp2_with first
      | (refine wpList_load_row rfl 36 _ rfl (w.heap.size + 1) rfl 36 #[.int .u8 1, .int .i64 z, .string ⟨#[]⟩] (0, 0) _ H64.out Try.underlying36 rfl (by kernel_rfl) ?_)
      | (refine wpList_store_row rfl 36 _ _ rfl w.heap.size #[.int .u8 1, .int .i64 z, .string ⟨#[]⟩] rfl rfl 36 _ H44.out (by kernel_rfl) rfl (by simp [Value.oneCell']) ?_)
    refine bodyPost_ret (v := .tuple #[.agg #[.int .u8 1, .int .i64 z, .string ⟨#[]⟩], .bool true]) (results_cell_tmp Try.results30 _ _ w.heap.size 36 #[.int .u8 1, .int .i64 z, .string ⟨#[]⟩] (0, 0) _ rfl (setRow_heap _ w.heap.size _ _ _ _ H44.out) Try.underlying36 rfl (by kernel_rfl)) rfl ⟨?_, ?_, ?_⟩
    · rw [rvI, ← HV.out.2.2, ← HV.out.1, ← HZ.out]; rfl
    · rw [← HV.out.2.1, ← HV.out.2.2]
      exact H34.out.keepS ((Kp.refl [w.heap.size] _).setRow _ _ (.inl (by simp))) (by intro x hx hl; simp at hx; have := HL.out x hl; omega)
    · exact HK4.out.setRow _ _ (.inr (Nat.le_refl _))

theorem r10Bytes_any (k n : Int) (s : ByteArray) (w : World) (hs : s.size ≤ 1000000) :
    Calls Try.prog 27 #[.agg #[.int .u8 k, .int .i64 n, .string s]] w fun e w' => ∃ ad cap, e = .returned (.slice ad (valB k n s).length cap) ∧ Own w' w.heap.size 5 .u8 ad cap (valB k n s) ∧ Kp [] w w' := by
  cases h1 : k == 1
  · cases h2 : k == 2
    · go_enter Try.func27, Try.ntmps27
      go_wp2_with fail
      go_ret
      exact ⟨none, 0, by simp [valB, h1, h2], by simpa [valB, h1, h2] using Own.nil _ _ _ _, (Kp.refl [] w).alloc _⟩
    · have hvb : valB k n s = short s.size ++ sbytes s := by simp [valB, h1, h2]
      rw [hvb]
      obtain ⟨m, hm⟩ : ∃ m, m = (short s.size).length := ⟨_, rfl⟩
      have hm10 : m ≤ 10 := by rw [hm]; exact (sh_length 9 s.size).2
      have HM := Lib.hid hm
      clear hm
      go_enter Try.func27, Try.ntmps27
      go_wp2_with fail
      obtain ⟨w1, hw1⟩ : ∃ w1, w1 = w.alloc (Obj.cells #[Value.int IntKind.u8 k, Value.int IntKind.i64 n, Value.string s] 36) := ⟨_, rfl⟩
      have hk1 : Kp [] w w1 := by rw [hw1]; exact (Kp.refl [] w).alloc _
      have hA : w1.heap[w.heap.size]? = some (.cells #[Value.int IntKind.u8 k, Value.int IntKind.i64 n, Value.string s] 36) := by rw [hw1]; exact heap_alloc_at rfl
      rw [← hw1]
      have HA2 := Lib.hid (cells3 hA).2.2
      clear hA hw1
      refine wp_region_GS (by kernel_rfl) [] [.val (.pointer (some ⟨w.heap.size, 2, none⟩)), .val (.string s), .val (.int .i64 (s.size : Int)), .val (.int .u64 (s.size : Int)), .own w1.heap.size (by simp) 5 .u8 m (short s.size), .val (.pointer (some ⟨w.heap.size, 2, none⟩)), .val (.string s), .rdE .u8 s.size (sbytes s)] [[(1, none)], [(13, some 0)], [(14, some 1)], [(15, some 2)], [(16, some 3)], [(1, none)], [(18, some 5)], [(19, some 6)]] [] (fun _ _ => True) 8 rfl (by kernel_rfl) (by kernel_rfl) (by kernel_rfl) (by kernel_rfl) (by kernel_rfl) (by simp) (fun _ _ _ h _ => h) trivial ?_ ?_
      · refine (ObG.free rfl ?o0 (ObG.free rfl ?o1 (ObG.free rfl ?o2 (ObG.free rfl ?o3 (ObG.free rfl ?o4 (ObG.free rfl ?o5 (ObG.free rfl ?o6 (ObG.free rfl ?o7 trivial))))))))
        case o0 => intro aR wR mR hR hI; replace hR := hR.undrew; intro (h1 : aR.tmps[1]? = some (.pointer (some ⟨w.heap.size, 0, none⟩))); exact exec_val (c := .pointer (some ⟨w.heap.size, 2, none⟩)) (wanted_none rfl) (by go_simp) rfl
        case o1 => intro aR wR mR hR hI; replace hR := hR.undrew; intro v13 h13 e13; replace e13 : v13 = .pointer (some ⟨w.heap.size, 2, none⟩) := e13; subst e13; (have hc := hR.cell HA2.out (by simp)); exact exec_val (c := .string s) (wanted_none rfl) (by go_simp) rfl
        case o2 => intro aR wR mR hR hI; replace hR := hR.undrew; intro v14 h14 e14; replace e14 : v14 = .string s := e14; subst e14; (skip); exact exec_val (c := .int .i64 (s.size : Int)) (wanted_none rfl) (by go_simp) rfl
        case o3 => intro aR wR mR hR hI; replace hR := hR.undrew; intro v15 h15 e15; replace e15 : v15 = .int .i64 (s.size : Int) := e15; subst e15; (have ex := IntWalk.u64_in (s.size : Int) (by omega)); exact exec_val (c := .int .u64 (s.size : Int)) (wanted_none rfl) (by go_simp) rfl
        case o4 => intro aR wR mR hR hI; replace hR := hR.undrew; intro v16 h16 e16; replace e16 : v16 = .int .u64 (s.size : Int) := e16; subst e16; refine exec_call (wanted_none rfl) (by go_simp; exact ⟨rfl, rfl⟩) ?_; refine (r01short_any (s.size : Int) _ (by omega) (by omega)).mono ?_; rintro e w7 ⟨ad7, cap7, rfl, ho7, kp7⟩; rw [Int.toNat_natCast, ← HM.out]; rw [Int.toNat_natCast] at ho7; exact ⟨_, rfl, ⟨ad7, cap7, rfl, ho7.mono hR.size⟩, kp7⟩
        case o5 => intro aR wR mR hR hI; replace hR := hR.undrew; intro (h1 : aR.tmps[1]? = some (.pointer (some ⟨w.heap.size, 0, none⟩))); exact exec_val (c := .pointer (some ⟨w.heap.size, 2, none⟩)) (wanted_none rfl) (by go_simp) rfl
        case o6 => intro aR wR mR hR hI; replace hR := hR.undrew; intro v18 h18 e18; replace e18 : v18 = .pointer (some ⟨w.heap.size, 2, none⟩) := e18; subst e18; (have hc := hR.cell HA2.out (by simp)); exact exec_val (c := .string s) (wanted_none rfl) (by go_simp) rfl
        case o7 => intro aR wR mR hR hI; replace hR := hR.undrew; intro v19 h19 e19; replace e19 : v19 = .string s := e19; subst e19; obtain ⟨w8, cap8, hr8, hd8, hk8⟩ := conv_bytes wR s hs; exact exec_do (c := .slice (some ⟨wR.heap.size, 0, none⟩) s.size cap8) (w' := w8) (wanted_none rfl) (by go_simp) ⟨_, _, rfl, hd8⟩ hk8
      · intro vs wR hR hI hV
        obtain ⟨e0, e1, e2, e3, e4, e5, e6, e7, -⟩ := hV
        replace e0 : vs 0 = .pointer (some ⟨w.heap.size, 2, none⟩) := e0
        replace e1 : vs 1 = .string s := e1
        replace e2 : vs 2 = .int .i64 (s.size : Int) := e2
        replace e3 : vs 3 = .int .u64 (s.size : Int) := e3
        replace e5 : vs 5 = .pointer (some ⟨w.heap.size, 2, none⟩) := e5
        replace e6 : vs 6 = .string s := e6
        simp only [putAll, List.take_succ_cons, List.take_zero, List.drop_succ_cons, List.drop_zero, e0, e1, e2, e3, e5, e6, Nat.reduceAdd, Nat.zero_add]
        clear e0 e1 e2 e3 e5 e6
        try simp only [List.setIfInBounds_toArray, List.set_cons_succ, List.set_cons_zero]
        simp only [Nat.reduceAdd, Nat.zero_add] at e4 e7
        obtain ⟨ad1, cap1, hv1, ho1⟩ := e4
        obtain ⟨ad2, cap2, hv2, hr2⟩ := e7
        rw [hv1, hv2]
        refine wpList_app rfl (.tmp 17) (.tmp 20) 22 22 rfl w1.heap.size 5 .u8 1 Try.underlying22 infoU8 ad1 cap1 m (short s.size) HM.out (sbytes s) (.slice ad2 s.size cap2) s.size (sbytes_length s).symm rfl rfl ho1 (by rw [← sbytes_length s]; exact src_rd hr2 Try.underlying22) (by omega) (by omega) hR.size ?_
        intro ad3 cap3 w3 ho3 kp3 hob3 _
        go_wp2_with fail
        go_ret
        refine ⟨ad3, cap3, ?_, ho3.mono hk1.size, ?_⟩
        · rw [List.length_append, ← HM.out, sbytes_length]; rfl
        · exact (hk1.tr hR).trans kp3 (by simp) (fun x hx => .inr (Nat.le_trans hk1.size (ho1.ob_ge x hx).1))
  · go_enter Try.func27, Try.ntmps27
    go_wp2_with fail
    rw [u64_wrap]
    refine (little_any (u64 n) 8 _ (u64_lt n) (by omega)).mono ?_
    rintro e w1 ⟨ad1, cap1, rfl, ho1, kp1⟩
    go_wp2_with fail
    go_ret
    exact ⟨ad1, cap1, by simp [valB, h1, le_length], by simpa [valB, h1] using ho1.mono (by simp), ((Kp.refl [] w).alloc _).tr kp1⟩
end Go.Proofs.Ytlcilinobdjlaaa
