/-
  Values: Append.
-/
import Derived.Test.YtlcilinobdjlaaaVal4
import Derived.Test.YtlcilinobdjlaaaCurW
namespace Go.Proofs.Ytlcilinobdjlaaa
open Go.RowKit
set_option linter.unusedSimpArgs false
set_option linter.unusedVariables false

/-- A string's bytes. -/
def sbytes (s : ByteArray) : List Int := s.data.toList.map fun b => (b.toNat : Int)
theorem sbytes_length (s : ByteArray) : (sbytes s).length = s.size := by simp [sbytes]
theorem byteCells_sb (s : ByteArray) : byteCells s = (sbytes s).map (Value.int .u8) := by simp [byteCells, sbytes]
/-- A value's bytes. -/
def valB (k n : Int) (s : ByteArray) : List Int := if k == 1 then le (u64 n) 8 else if k == 2 then short s.size ++ sbytes s else []

theorem vAppend_any (k n : Int) (s : ByteArray) (ad : Option Addr) (cap l : Nat) (zs : List Int) (hl : l = zs.length) (w : World) (hr : Rd w .u8 ad cap zs) (hb : l ≤ 100000000) (hs : s.size ≤ 1000000) :
    Calls Try.prog 26 #[.slice ad l cap, .agg #[.int .u8 k, .int .i64 n, .string s]] w fun e w' => ∃ ad' cap', e = .returned (.slice ad' (l + (valB k n s).length) cap') ∧ Own w' w.heap.size 5 .u8 ad' cap' (zs ++ valB k n s) ∧ Kp [] w w' := by
  have HL := Lib.hid hl
  have HR := Lib.hid hr
  clear hl hr
  cases h1 : k == 1
  · cases h2 : k == 2
    · go_enter Try.func26, Try.ntmps26
      go_wp2_with (go_at_call 45; refine (clone_any ad cap l zs HL.out _ (HR.out.alloc _) (by omega)).mono ?_; rintro e w1 ⟨ad1, cap1, rfl, ho1, kp1⟩)
      go_ret
      exact ⟨ad1, cap1, by simp [valB, h1, h2], by simpa [valB, h1, h2] using ho1.mono (by simp), ((Kp.refl [] w).alloc _).tr kp1⟩
    · go_enter Try.func26, Try.ntmps26
      go_wp2_with fail
      obtain ⟨w1, hw1⟩ : ∃ w1, w1 = w.alloc (Obj.cells #[Value.int IntKind.u8 k, Value.int IntKind.i64 n, Value.string s] 36) := ⟨_, rfl⟩
      have hk1 : Kp [] w w1 := by rw [hw1]; exact (Kp.refl [] w).alloc _
      have hA : w1.heap[w.heap.size]? = some (.cells #[Value.int IntKind.u8 k, Value.int IntKind.i64 n, Value.string s] 36) := by rw [hw1]; exact heap_alloc_at rfl
      rw [← hw1]
      have HA2 := Lib.hid (cells3 hA).2.2
      clear hA hw1
      obtain ⟨m, hm⟩ : ∃ m, m = (short s.size).length := ⟨_, rfl⟩
      have hm10 : m ≤ 10 := by rw [hm]; exact (sh_length 9 s.size).2
      have HM := Lib.hid hm
      clear hm
      refine wp_region_GS (by kernel_rfl) [] [.val (.slice ad l cap), .val (.pointer (some ⟨w.heap.size, 2, none⟩)), .val (.string s), .val (.int .i64 (s.size : Int)), .val (.int .u64 (s.size : Int)), .own w.heap.size (by simp) 5 .u8 (l + m) (zs ++ short s.size), .val (.pointer (some ⟨w.heap.size, 2, none⟩)), .val (.string s)] [[(0, none)], [(3, none)], [(17, some 1)], [(18, some 2)], [(19, some 3)], [(16, some 0), (20, some 4)], [(3, none)], [(22, some 6)]] [] (fun _ _ => True) 8 rfl (by kernel_rfl) (by kernel_rfl) (by kernel_rfl) (by kernel_rfl) (by kernel_rfl) (by simp) (fun _ _ _ h _ => h) trivial ?_ ?_
      · refine (ObG.free rfl ?o0 (ObG.free rfl ?o1 (ObG.free rfl ?o2 (ObG.free rfl ?o3 (ObG.free rfl ?o4 (ObG.free rfl ?o5 (ObG.free rfl ?o6 (ObG.free rfl ?o7 trivial))))))))
        case o0 => intro aR wR mR hR hI; replace hR := hR.undrew; intro (h0 : aR.tmps[0]? = some (.slice ad l cap)); exact exec_val (c := .slice ad l cap) (wanted_none rfl) (by go_simp) rfl
        case o1 => intro aR wR mR hR hI; replace hR := hR.undrew; intro (h3 : aR.tmps[3]? = some (.pointer (some ⟨w.heap.size, 0, none⟩))); exact exec_val (c := .pointer (some ⟨w.heap.size, 2, none⟩)) (wanted_none rfl) (by go_simp) rfl
        case o2 => intro aR wR mR hR hI; replace hR := hR.undrew; intro v17 h17 e17; replace e17 : v17 = .pointer (some ⟨w.heap.size, 2, none⟩) := e17; subst e17; (have hc := hR.cell HA2.out (by simp)); exact exec_val (c := .string s) (wanted_none rfl) (by go_simp) rfl
        case o3 => intro aR wR mR hR hI; replace hR := hR.undrew; intro v18 h18 e18; replace e18 : v18 = .string s := e18; subst e18; (skip); exact exec_val (c := .int .i64 (s.size : Int)) (wanted_none rfl) (by go_simp) rfl
        case o4 => intro aR wR mR hR hI; replace hR := hR.undrew; intro v19 h19 e19; replace e19 : v19 = .int .i64 (s.size : Int) := e19; subst e19; (have ex := IntWalk.u64_in (s.size : Int) (by omega)); exact exec_val (c := .int .u64 (s.size : Int)) (wanted_none rfl) (by go_simp) rfl
        case o5 => intro aR wR mR hR hI; replace hR := hR.undrew; intro v16 h16 e16; replace e16 : v16 = .slice ad l cap := e16; subst e16; intro v20 h20 e20; replace e20 : v20 = .int .u64 (s.size : Int) := e20; subst e20; refine exec_call (wanted_none rfl) (by go_simp; exact ⟨rfl, rfl⟩) ?_; refine (appUint_any ad cap l (s.size : Int) zs HL.out _ ((HR.out.keep0 hk1).keep0 hR) (by omega) (by omega) (by omega)).mono ?_; rintro e w7 ⟨ad7, cap7, rfl, ho7, kp7⟩; rw [Int.toNat_natCast, ← HM.out]; rw [Int.toNat_natCast] at ho7; exact ⟨_, rfl, ⟨ad7, cap7, rfl, ho7.mono (Nat.le_trans hk1.size hR.size)⟩, kp7⟩
        case o6 => intro aR wR mR hR hI; replace hR := hR.undrew; intro (h3 : aR.tmps[3]? = some (.pointer (some ⟨w.heap.size, 0, none⟩))); exact exec_val (c := .pointer (some ⟨w.heap.size, 2, none⟩)) (wanted_none rfl) (by go_simp) rfl
        case o7 => intro aR wR mR hR hI; replace hR := hR.undrew; intro v22 h22 e22; replace e22 : v22 = .pointer (some ⟨w.heap.size, 2, none⟩) := e22; subst e22; (have hc := hR.cell HA2.out (by simp)); exact exec_val (c := .string s) (wanted_none rfl) (by go_simp) rfl
      · intro vs wR hR hI hV
        obtain ⟨e0, e1, e2, e3, e4, e5, e6, e7, -⟩ := hV
        replace e0 : vs 0 = .slice ad l cap := e0
        replace e1 : vs 1 = .pointer (some ⟨w.heap.size, 2, none⟩) := e1
        replace e2 : vs 2 = .string s := e2
        replace e3 : vs 3 = .int .i64 (s.size : Int) := e3
        replace e4 : vs 4 = .int .u64 (s.size : Int) := e4
        replace e6 : vs 6 = .pointer (some ⟨w.heap.size, 2, none⟩) := e6
        replace e7 : vs 7 = .string s := e7
        simp only [putAll, List.take_succ_cons, List.take_zero, List.drop_succ_cons, List.drop_zero, e0, e1, e2, e3, e4, e6, e7, Nat.reduceAdd, Nat.zero_add]
        clear e0 e1 e2 e3 e4 e6 e7
        try simp only [List.setIfInBounds_toArray, List.set_cons_succ, List.set_cons_zero]
        simp only [Nat.reduceAdd, Nat.zero_add] at e5
        obtain ⟨ad1, cap1, hv, ho1⟩ := e5
        rw [hv]
        refine wpList_app rfl (.tmp 21) (.tmp 23) 22 9 rfl w.heap.size 5 .u8 1 Try.underlying22 infoU8 ad1 cap1 (l + m) (zs ++ short s.size) (by rw [List.length_append, HL.out, HM.out]) (sbytes s) (.string s) s.size (sbytes_length s).symm rfl rfl ho1 (byteCells_sb s ▸ Src.ofString _ Try.underlying9 s) (by omega) (by omega) (Nat.le_trans hk1.size hR.size) ?_
        intro ad2 cap2 w3 ho3 kp3 hob3 _
        go_wp2_with fail
        go_ret
        refine ⟨ad2, cap2, ?_, ?_, ?_⟩
        · simp [valB, h1, h2, sbytes_length, ← HM.out, Nat.add_assoc]
        · simpa [valB, h1, h2] using ho3
        · exact (hk1.tr hR).trans kp3 (by simp) (fun x hx => .inr (ho1.ob_ge x hx).1)
  · go_enter Try.func26, Try.ntmps26
    go_wp2_with (go_at_call 43; rw [u64_wrap]; refine (appU64_any ad cap l (u64 n : Int) zs HL.out _ (HR.out.alloc _) (by omega) (by omega)).mono ?_; rintro e w1 ⟨ad1, cap1, rfl, ho1, kp1⟩)
    go_ret
    exact ⟨ad1, cap1, by simp [valB, h1, le_length], by simpa [valB, h1] using ho1.mono (by simp), ((Kp.refl [] w).alloc _).tr kp1⟩
end Go.Proofs.Ytlcilinobdjlaaa
