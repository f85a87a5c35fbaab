/-
  Values: what is read, by the program and by the document; the document's bytes.
-/
import Derived.Test.YtlcilinobdjlaaaVal7
import Derived.Test.YtlcilinobdjlaaaRef01B
import Derived.Test.YtlcilinobdjlaaaUintR
import Derived.Test.YtlcilinobdjlaaaStr
import Derived.Laws.Tables
namespace Go.Proofs.Ytlcilinobdjlaaa
open Go.RowKit
set_option linter.unusedSimpArgs false
set_option linter.unusedVariables false

section
variable {P : Program}
theorem results_cell_tmp {fn : Func} {p q : Tmp} {ty : TypeId} (h : fn.results = #[.cell p ty, .tmp q]) (tmps : Array Value) (w : World) (g : Nat) (t : TypeId) (cs : Array Value) (fr : Nat × Nat) (d : TypeDesc)
    (hp : tmps.getD p undef = .pointer (some ⟨g, 0, none⟩)) (hg : w.heap[g]? = some (.cells cs t fr))
    (hu : P.underlying ty = some d) (hd : (match d with | .struct _ | .array _ _ => true | _ => false) = true) (hi : (P.info? ty).map (·.size) = some cs.size) :
    (results fn tmps).run P w = .ok (.tuple #[.agg cs, tmps.getD q undef]) w := by
  have hp' : tmps[p]?.getD undef = .pointer (some ⟨g, 0, none⟩) := by simpa using hp
  simp [results, h, hp', asAddr, run_loadVar_row w g t ty cs fr d hg hu hd hi]
end
theorem Kp.setRow {S : List Nat} {a b : World} (h : Kp S a b) (g : Nat) (cs : Array Value) (hp : g ∈ S ∨ a.heap.size ≤ g) : Kp S a (b.setRow g cs) :=
  ⟨h.os, h.tape, h.output, by have := h.size; simpa [World.setRow] using this, fun k hk hn => by
    rw [setRow_other _ _ _ _ (fun e => by rcases hp with hp | hp; exact hn (e ▸ hp); omega)]; exact h.block k hk hn⟩

/-! What is read as a value: a number; a text, once its length v is read. -/
def zeroV : Value := .agg #[.int .u8 0, .int .i64 0, .string ⟨#[]⟩]
def rvI (bs : List Int) (a : Nat) (b : Bool) : Value := if rdB bs a b 8 then zeroV else .agg #[.int .u8 1, .int .i64 (wrap64 (rdN bs a b 8)), .string ⟨#[]⟩]
def rvT (bs : List Int) (a : Nat) (b : Bool) (v : Nat) : Value := if 65535 < v then zeroV else if rdSB bs a b v then zeroV else .agg #[.int .u8 2, .int .i64 0, .string (strOfNums (rdS bs a b v))]
def rkT (bs : List Int) (a : Nat) (b : Bool) (v : Nat) : Bool := if 65535 < v then false else !rdSB bs a b v
def raT (bs : List Int) (a : Nat) (b : Bool) (v : Nat) : Nat := if 65535 < v then a else rdSA bs a b v
def rbT (bs : List Int) (a : Nat) (b : Bool) (v : Nat) : Bool := if 65535 < v then b else rdSB bs a b v

set_option maxHeartbeats 400000 in
theorem vnumber1_any {L : Nat} (p : Nat) (bs : List Int) (a : Nat) (b : Bool) (w : World) (h : Rdr w L p bs a b) (hb : Bytes8 bs) :
    Calls Try.prog 47 #[.pointer (some ⟨p, 0, none⟩), .int .u8 1] w fun e w' => e = .returned (.int .u64 (rdN bs a b 8)) ∧ Rdr w' L p bs (rdA bs a b 8) (rdB bs a b 8) ∧ Kp [p] w w' := by
  have H := Lib.hid h
  clear h
  go_enter Try.func47, Try.ntmps47
  go_wp2_with fail
  refine (cu64_any p bs a b w H.out hb).mono ?_
  rintro e w1 ⟨rfl, h1, k1⟩
  go_wp2_with fail
  go_ret
  exact ⟨rfl, h1, k1⟩
theorem vnumber2_any {L : Nat} (p : Nat) (bs : List Int) (a : Nat) (b : Bool) (v a1 : Nat) (b1 : Bool) (w : World) (h : Rdr w L p bs a b)
    (hu : Calls Try.prog 58 #[.pointer (some ⟨p, 0, none⟩)] w fun e w' => e = .returned (.int .u64 (v : Int)) ∧ Rdr w' L p bs a1 b1 ∧ Kp [p] w w') :
    Calls Try.prog 47 #[.pointer (some ⟨p, 0, none⟩), .int .u8 2] w fun e w' => e = .returned (.int .u64 (v : Int)) ∧ Rdr w' L p bs a1 b1 ∧ Kp [p] w w' := by
  have H := Lib.hid h
  have HU := Lib.hid hu
  clear h hu
  go_enter Try.func47, Try.ntmps47
  go_wp2_with fail
  refine HU.out.mono ?_
  rintro e w1 ⟨rfl, h1, k1⟩
  go_wp2_with fail
  go_ret
  exact ⟨rfl, h1, k1⟩

theorem vRead_none {L : Nat} (p : Nat) (bs : List Int) (a : Nat) (b : Bool) (kd : Int) (w : World) (h : Rdr w L p bs a b) (h1 : ¬ kd = 1) (h2 : ¬ kd = 2) :
    Calls Try.prog 29 #[.pointer (some ⟨p, 0, none⟩), .int .u8 kd] w fun e w' => e = .returned (.tuple #[zeroV, .bool false]) ∧ Rdr w' L p bs a b ∧ Kp [] w w' := by
  have H := Lib.hid h
  have e1 : (kd != 1) = true := by simpa using h1
  have e2 : (kd != 2) = true := by simpa using h2
  clear h h1 h2
  go_enter Try.func29, Try.ntmps29
  go_wp2_with fail
  exact bodyPost_ret (v := .tuple #[zeroV, .bool false]) (results_cell_tmp Try.results29 _ _ w.heap.size 36 _ (0, 0) _ rfl (heap_alloc_at rfl) Try.underlying36 rfl (by kernel_rfl)) rfl ⟨rfl, H.out.keep ((Kp.refl [] w).alloc _), (Kp.refl [] w).alloc _⟩

set_option maxRecDepth 10000 in
set_option maxHeartbeats 800000 in
theorem vRead_int {L : Nat} (p : Nat) (bs : List Int) (a : Nat) (b : Bool) (w : World) (h : Rdr w L p bs a b) (hb : Bytes8 bs) (hL : L ≤ w.heap.size) :
    Calls Try.prog 29 #[.pointer (some ⟨p, 0, none⟩), .int .u8 1] w fun e w' => e = .returned (.tuple #[rvI bs a b, .bool (!rdB bs a b 8)]) ∧ Rdr w' L p bs (rdA bs a b 8) (rdB bs a b 8) ∧ Kp [p] w w' := by
  have H := Lib.hid h
  have hp := h.lt
  clear h
  go_enter Try.func29, Try.ntmps29
  go_wp2_with fail
  refine (vnumber1_any p bs a b _ (H.out.keep ((Kp.refl [] w).alloc _)) hb).mono ?_
  rintro e w1 ⟨rfl, h1, k1⟩
  have h4 : w1.heap[w.heap.size]? = some (.cells #[.int .u8 0, .int .i64 0, .string ⟨#[]⟩] 36) := k1.get (heap_alloc_at rfl) (by simp; omega)
  have kw1 : Kp [p] w w1 := ((Kp.refl [p] w).alloc _).trans k1 (by simp) (fun x hx => .inl hx)
  obtain ⟨v, hv⟩ : ∃ v, v = rdN bs a b 8 := ⟨_, rfl⟩
  obtain ⟨a1, ha1⟩ : ∃ a1, a1 = rdA bs a b 8 := ⟨_, rfl⟩
  obtain ⟨b1, hb1⟩ : ∃ b1, b1 = rdB bs a b 8 := ⟨_, rfl⟩
  rw [← hv]
  rw [← ha1, ← hb1] at h1
  have HV := Lib.hid (And.intro hv (And.intro ha1 hb1))
  have H4 := Lib.hid h4
  have HK1 := Lib.hid kw1
  have H1 := Lib.hid h1
  obtain ⟨z, hz⟩ : ∃ z, z = wrap64 (v : Int) := ⟨_, rfl⟩
  have HZ := Lib.hid hz
  have hz2 := hz.symm
  clear hv ha1 hb1 h4 kw1 k1 h1 hz
  go_wp2_with fail
  refine (vInt_any z _).mono ?_
  rintro e w2 ⟨rfl, k2⟩
  have H42 := Lib.hid (k2.get H4.out (by simp))
  have HK2 := Lib.hid (kp_same HK1.out (kp_more (S := [p]) k2))
  have H2 := Lib.hid (H1.out.keep k2)
  have hs2 := HK2.out.size
  clear k2
  go_wp2_with fail
  obtain ⟨w3, hw3⟩ : ∃ w3, w3 = w2.alloc (Obj.cells #[Value.int IntKind.u8 1, Value.int IntKind.i64 z, Value.string ⟨#[]⟩] 36) := ⟨_, rfl⟩
  rw [← hw3]
  have h7 : w3.heap[w2.heap.size]? = some (.cells #[.int .u8 1, .int .i64 z, .string ⟨#[]⟩] 36) := by rw [hw3]; exact heap_alloc_at rfl
  have k3 : Kp [] w2 w3 := by rw [hw3]; exact (Kp.refl [] w2).alloc _
  have H43 := Lib.hid (k3.get H42.out (by simp))
  have HK3 := Lib.hid (kp_same HK2.out (kp_more (S := [p]) k3))
  have H3 := Lib.hid (H2.out.keep k3)
  have H7 := Lib.hid h7
  clear h7 k3 hw3
  refine (cbad_any p bs a1 b1 _ H3.out).mono ?_
  rintro e w4 ⟨rfl, rfl⟩
  cases b1 with
  | true =>
    go_wp2_with (refine wpList_store_row rfl 36 _ _ rfl w.heap.size #[.int .u8 0, .int .i64 0, .string ⟨#[]⟩] rfl rfl 36 _ H43.out (by kernel_rfl) rfl (by simp [Value.oneCell']) ?_)
    have hk := (Kp.refl [] w3).setRow
    refine bodyPost_ret (v := .tuple #[zeroV, .bool false]) (results_cell_tmp Try.results29 _ _ w.heap.size 36 #[.int .u8 0, .int .i64 0, .string ⟨#[]⟩] (0, 0) _ rfl (setRow_heap w3 w.heap.size _ _ _ _ H43.out) Try.underlying36 rfl (by kernel_rfl)) rfl ⟨?_, ?_, ?_⟩
    · rw [rvI, ← HV.out.2.2]; rfl
    · rw [← HV.out.2.1, ← HV.out.2.2]
      exact H3.out.keepS ((Kp.refl [w.heap.size] w3).setRow _ _ (.inl (by simp))) (by simp; omega)
    · exact HK3.out.setRow _ _ (.inr (Nat.le_refl _))
  | false =>
    go_wp2_with first
      | (refine wpList_load_row rfl 36 _ rfl w2.heap.size rfl 36 #[.int .u8 1, .int .i64 z, .string ⟨#[]⟩] (0, 0) _ H7.out Try.underlying36 rfl (by kernel_rfl) ?_)
      | (refine wpList_store_row rfl 36 _ _ rfl w.heap.size #[.int .u8 1, .int .i64 z, .string ⟨#[]⟩] rfl rfl 36 _ H43.out (by kernel_rfl) rfl (by simp [Value.oneCell']) ?_)
    refine bodyPost_ret (v := .tuple #[.agg #[.int .u8 1, .int .i64 z, .string ⟨#[]⟩], .bool true]) (results_cell_tmp Try.results29 _ _ w.heap.size 36 #[.int .u8 1, .int .i64 z, .string ⟨#[]⟩] (0, 0) _ rfl (setRow_heap w3 w.heap.size _ _ _ _ H43.out) Try.underlying36 rfl (by kernel_rfl)) rfl ⟨?_, ?_, ?_⟩
    · rw [rvI, ← HV.out.2.2, ← HV.out.1, ← HZ.out]; rfl
    · rw [← HV.out.2.1, ← HV.out.2.2]
      exact H3.out.keepS ((Kp.refl [w.heap.size] w3).setRow _ _ (.inl (by simp))) (by simp; omega)
    · exact HK3.out.setRow _ _ (.inr (Nat.le_refl _))

set_option maxRecDepth 10000 in
set_option maxHeartbeats 1600000 in
theorem vRead_text {L : Nat} (p : Nat) (bs : List Int) (a : Nat) (b : Bool) (v a1 : Nat) (b1 : Bool) (w : World) (h : Rdr w L p bs a b) (hL : L ≤ w.heap.size) (hv : v < 18446744073709551616)
    (hu : ∀ wx, Rdr wx L p bs a b → Calls Try.prog 58 #[.pointer (some ⟨p, 0, none⟩)] wx fun e w' => e = .returned (.int .u64 (v : Int)) ∧ Rdr w' L p bs a1 b1 ∧ Kp [p] wx w') :
    Calls Try.prog 29 #[.pointer (some ⟨p, 0, none⟩), .int .u8 2] w fun e w' => e = .returned (.tuple #[rvT bs a1 b1 v, .bool (rkT bs a1 b1 v)]) ∧ Rdr w' L p bs (raT bs a1 b1 v) (rbT bs a1 b1 v) ∧ Kp [p] w w' := by
  have H := Lib.hid h
  have hp := h.lt
  have hbl := h.le.2
  have HU := Lib.hid hu
  clear h hu
  go_enter Try.func29, Try.ntmps29
  go_wp2_with fail
  refine (vnumber2_any p bs a b v a1 b1 _ (H.out.keep ((Kp.refl [] w).alloc _)) (HU.out _ (H.out.keep ((Kp.refl [] w).alloc _)))).mono ?_
  rintro e w1 ⟨rfl, h1, k1⟩
  have h4 : w1.heap[w.heap.size]? = some (.cells #[.int .u8 0, .int .i64 0, .string ⟨#[]⟩] 36) := k1.get (heap_alloc_at rfl) (by simp; omega)
  have kw1 : Kp [p] w w1 := ((Kp.refl [p] w).alloc _).trans k1 (by simp) (fun x hx => .inl hx)
  have H4 := Lib.hid h4
  have HK1 := Lib.hid kw1
  have H1 := Lib.hid h1
  obtain ⟨z, hz⟩ : ∃ z, z = wrap64 (v : Int) := ⟨_, rfl⟩
  have HZ := Lib.hid hz
  have hz2 := hz.symm
  clear h4 kw1 k1 h1 hz
  go_wp2_with fail
  refine (vInt_any z _).mono ?_
  rintro e w2 ⟨rfl, k2⟩
  have H42 := Lib.hid (k2.get H4.out (by simp))
  have HK2 := Lib.hid (kp_same HK1.out (kp_more (S := [p]) k2))
  have H2 := Lib.hid (H1.out.keep k2)
  have hs2 := HK2.out.size
  clear k2
  have h7 : (w2.alloc (Obj.cells #[Value.int IntKind.u8 1, Value.int IntKind.i64 z, Value.string ⟨#[]⟩] 36)).heap[w2.heap.size]? = some (.cells #[.int .u8 1, .int .i64 z, .string ⟨#[]⟩] 36) := heap_alloc_at rfl
  have k3 : Kp [] w2 (w2.alloc (Obj.cells #[Value.int IntKind.u8 1, Value.int IntKind.i64 z, Value.string ⟨#[]⟩] 36)) := (Kp.refl [] w2).alloc _
  have H43 := Lib.hid (k3.get H42.out (by simp))
  have HK3 := Lib.hid (kp_same HK2.out (kp_more (S := [p]) k3))
  have H3 := Lib.hid (H2.out.keep k3)
  have H7 := Lib.hid h7
  clear h7 k3
  by_cases hbig : (65535 : Int) < (v : Int)
  · go_wp2_with (refine wpList_store_row rfl 36 _ _ rfl w.heap.size #[.int .u8 0, .int .i64 0, .string ⟨#[]⟩] rfl rfl 36 _ H43.out (by kernel_rfl) rfl (by simp [Value.oneCell']) ?_)
    refine bodyPost_ret (v := .tuple #[zeroV, .bool false]) (results_cell_tmp Try.results29 _ _ w.heap.size 36 #[.int .u8 0, .int .i64 0, .string ⟨#[]⟩] (0, 0) _ rfl (setRow_heap _ w.heap.size _ _ _ _ H43.out) Try.underlying36 rfl (by kernel_rfl)) rfl ⟨?_, ?_, ?_⟩
    · rw [rvT, rkT, if_pos (by omega), if_pos (by omega)]
    · rw [raT, rbT, if_pos (by omega), if_pos (by omega)]
      exact H3.out.keepS ((Kp.refl [w.heap.size] _).setRow _ _ (.inl (by simp))) (by simp; omega)
    · exact HK3.out.setRow _ _ (.inr (Nat.le_refl _))
  · have hw4 : wrap64 (v : Int) = (v : Int) := by unfold wrap64; omega
    have hzv : z = (v : Int) := by rw [HZ.out, hw4]
    have hne : w.heap.size < w2.heap.size := lt_of_heap H42.out
    clear hz2
    subst hzv
    go_wp2_with fail
    obtain ⟨w3, hw3⟩ : ∃ w3, w3 = w2.alloc (Obj.cells #[Value.int IntKind.u8 1, Value.int IntKind.i64 (v : Int), Value.string ⟨#[]⟩] 36) := ⟨_, rfl⟩
    have hs3 : w2.heap.size < w3.heap.size := by rw [hw3]; simp
    rw [← hw3] at H43 HK3 H3 H7
    rw [← hw3]
    clear hw3
    refine (cbytes_any p bs a1 b1 (v : Int) _ H3.out).mono ?_
    rintro e w4 ⟨ad4, cap4, rfl, ho4, h4, k4⟩
    have hxl : (rdS bs a1 b1 (v : Int)).length ≤ 1099511627776 := by
      unfold rdS
      split
      · simp [sub]; omega
      · simp
    obtain ⟨x, hx⟩ : ∃ x, x = rdS bs a1 b1 (v : Int) := ⟨_, rfl⟩
    obtain ⟨a2, ha2⟩ : ∃ a2, a2 = rdSA bs a1 b1 (v : Int) := ⟨_, rfl⟩
    obtain ⟨b2, hb2⟩ : ∃ b2, b2 = rdSB bs a1 b1 (v : Int) := ⟨_, rfl⟩
    rw [← hx] at ho4 hxl ⊢
    rw [← ha2, ← hb2] at h4
    obtain ⟨lx, hlx⟩ : ∃ lx, lx = x.length := ⟨_, rfl⟩
    rw [← hlx] at hxl ⊢
    have hcv := cvs w4 ad4 cap4 lx x ho4.rd hlx
    have H44 := Lib.hid (k4.get H43.out (by simp; omega))
    have H74 := Lib.hid (k4.get H7.out (by simp; omega))
    have HK4 := Lib.hid (kp_same HK3.out k4)
    have HX := Lib.hid (And.intro hx (And.intro ha2 hb2))
    have H4' := Lib.hid h4
    clear hx ha2 hb2 hlx ho4 h4 k4 H43 H7 HK3 H3 HK2 H2 HK1 H1 H42 H4
    go_wp2_with fail
    refine (vText_any (strOfNums x) _).mono ?_
    rintro e w5 ⟨rfl, k5⟩
    have H45 := Lib.hid (k5.get H44.out (by simp))
    have H75 := Lib.hid (k5.get H74.out (by simp))
    have HK5 := Lib.hid (kp_same HK4.out (kp_more (S := [p]) k5))
    have H5 := Lib.hid (H4'.out.keep k5)
    clear k5 hcv
    go_wp2_with (refine wpList_store_row rfl 36 _ _ rfl w2.heap.size #[.int .u8 2, .int .i64 0, .string (strOfNums x)] rfl rfl 36 _ H75.out (by kernel_rfl) rfl (by simp [Value.oneCell']) ?_)
    have k6 := (Kp.refl [w2.heap.size] w5).setRow w2.heap.size #[.int .u8 2, .int .i64 0, .string (strOfNums x)] (.inl (by simp))
    have h7 := setRow_heap w5 w2.heap.size _ #[.int .u8 2, .int .i64 0, .string (strOfNums x)] _ _ H75.out
    have hk6 := HK5.out.setRow w2.heap.size #[.int .u8 2, .int .i64 0, .string (strOfNums x)] (.inr (by omega))
    generalize w5.setRow w2.heap.size #[.int .u8 2, .int .i64 0, .string (strOfNums x)] = w6 at *
    have H46 := Lib.hid (k6.get H45.out (by simp; omega))
    have H6 := Lib.hid (H5.out.keepS k6 (by simp; omega))
    have H7 := Lib.hid h7
    have HK6 := Lib.hid hk6
    clear k6 h7 hk6
    refine (cbad_any p bs a2 b2 _ H6.out).mono ?_
    rintro e w7 ⟨rfl, rfl⟩
    cases b2 with
    | true =>
      go_wp2_with (refine wpList_store_row rfl 36 _ _ rfl w.heap.size #[.int .u8 0, .int .i64 0, .string ⟨#[]⟩] rfl rfl 36 _ H46.out (by kernel_rfl) rfl (by simp [Value.oneCell']) ?_)
      refine bodyPost_ret (v := .tuple #[zeroV, .bool false]) (results_cell_tmp Try.results29 _ _ w.heap.size 36 #[.int .u8 0, .int .i64 0, .string ⟨#[]⟩] (0, 0) _ rfl (setRow_heap _ w.heap.size _ _ _ _ H46.out) Try.underlying36 rfl (by kernel_rfl)) rfl ⟨?_, ?_, ?_⟩
      · simp only [rvT, rkT, if_neg (show ¬ 65535 < v by omega)]; rw [← HX.out.2.2]; rfl
      · simp only [raT, rbT, if_neg (show ¬ 65535 < v by omega)]; rw [← HX.out.2.1, ← HX.out.2.2]
        exact H6.out.keepS ((Kp.refl [w.heap.size] _).setRow _ _ (.inl (by simp))) (by simp; omega)
      · exact HK6.out.setRow _ _ (.inr (Nat.le_refl _))
    | false =>
      go_wp2_with first
        | (refine wpList_load_row rfl 36 _ rfl w2.heap.size rfl 36 #[.int .u8 2, .int .i64 0, .string (strOfNums x)] (0, 0) _ H7.out Try.underlying36 rfl (by kernel_rfl) ?_)
        | (refine wpList_store_row rfl 36 _ _ rfl w.heap.size #[.int .u8 2, .int .i64 0, .string (strOfNums x)] rfl rfl 36 _ H46.out (by kernel_rfl) rfl (by simp [Value.oneCell']) ?_)
      refine bodyPost_ret (v := .tuple #[.agg #[.int .u8 2, .int .i64 0, .string (strOfNums x)], .bool true]) (results_cell_tmp Try.results29 _ _ w.heap.size 36 #[.int .u8 2, .int .i64 0, .string (strOfNums x)] (0, 0) _ rfl (setRow_heap _ w.heap.size _ _ _ _ H46.out) Try.underlying36 rfl (by kernel_rfl)) rfl ⟨?_, ?_, ?_⟩
      · simp only [rvT, rkT, if_neg (show ¬ 65535 < v by omega)]; rw [← HX.out.2.2, ← HX.out.1]; rfl
      · simp only [raT, rbT, if_neg (show ¬ 65535 < v by omega)]; rw [← HX.out.2.1, ← HX.out.2.2]
        exact H6.out.keepS ((Kp.refl [w.heap.size] _).setRow _ _ (.inl (by simp))) (by simp; omega)
      · exact HK6.out.setRow _ _ (.inr (Nat.le_refl _))
end Go.Proofs.Ytlcilinobdjlaaa
