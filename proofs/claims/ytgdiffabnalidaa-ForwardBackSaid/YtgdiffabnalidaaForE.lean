/-
  Forward: an index of ids, and what its calls tell of them; the document's width; known.
-/
import Derived.Test.YtgdiffabnalidaaForB
import Derived.Test.YtgdiffabnalidaaForD
import Derived.Test.YtgdiffabnalidaaLaw02
namespace Go.Proofs.Ytgdiffabnalidaa
open Go.RowKit
set_option linter.unusedSimpArgs false
set_option linter.unusedVariables false

/-- How often an id stands. -/
def cI (id : Int) (l : List Int) : Nat := l.countP fun x => decide (x = id)
/-- How many ids stand below k. -/
def cL (l : List Int) (k : Nat) : Nat := l.countP fun x => decide (0 ≤ x ∧ x < (k : Int))
theorem cL_zero (l : List Int) : cL l 0 = 0 := by rw [cL, List.countP_eq_zero]; intro x _; simp only [decide_eq_true_eq]; omega
theorem cL_step (l : List Int) (k : Nat) : cL l (k + 1) = cL l k + cI (k : Int) l := by
  induction l with
  | nil => rfl
  | cons x l ih =>
    simp only [cL, cI, List.countP_cons, decide_eq_true_eq] at ih ⊢
    rw [ih]
    split <;> split <;> split <;> omega
theorem cL_le (l : List Int) (k : Nat) : cL l k ≤ l.length := List.countP_le_length
theorem cI_le (l : List Int) (id : Int) : cI id l ≤ l.length := List.countP_le_length
theorem cL_all (l : List Int) (k : Nat) (h : ∀ x ∈ l, 0 ≤ x ∧ x < (k : Int)) : cL l k = l.length := by
  rw [cL, List.countP_eq_length]; intro x hx; simpa using h x hx
theorem cI_none (l : List Int) (id : Int) (h : ∀ x ∈ l, x ≠ id) : cI id l = 0 := by
  rw [cI, List.countP_eq_zero]; intro x hx; simpa using h x hx
theorem list_upto (l : List Int) : l = (List.range l.length).map (nth l) := by
  apply List.ext_getElem (by simp)
  intro i h1 h2
  simp [nth, h1]
theorem cntF_cI (l : List Int) (wd : Nat) (h : Fit wd l) (id : Int) : cntF id (uptoF (fun j => (j, idG (packs wd l) wd j)) l.length) = cI id l := by
  have e : cI id l = cI id ((List.range l.length).map (nth l)) := by rw [← list_upto]
  rw [e, cntF, cI, uptoF, List.countP_map, List.countP_map]
  refine List.countP_congr fun i hi => ?_
  have hi' : i < l.length := List.mem_range.1 hi
  simp only [Function.comp]
  have hg : idG (packs wd l) wd i = (nth l i).toNat := by unfold idG; rw [leN_packs wd l h, gets_vn wd l h i hi']
  have h0 := (h (nth l i) (by rw [show nth l i = l[i] by simp [nth, hi']]; exact List.getElem_mem _)).1
  rw [decide_eq_true_eq, decide_eq_true_eq, show (idG (packs wd l) wd i : Int) = nth l i by omega]

/-- An index of these ids, below q. -/
def FX (w : World) (p : Nat) (l : List Int) (q : Nat) : Prop := ∃ ad cap, LowIdx w.heap.size w p l.length q (wdF q) ad cap (packs (wdF q) l)
theorem LowIdx.keep0 {w w' : World} {p n m wd : Nat} {ad : Option Addr} {cap : Nat} {bs : List Int} (h : LowIdx w.heap.size w p n m wd ad cap bs) (k : Kp [] w w') : LowIdx w'.heap.size w' p n m wd ad cap bs :=
  ⟨h.1.keep0 k, Nat.lt_of_lt_of_le h.2.1 k.size, fun x hx hb => Nat.lt_of_lt_of_le (h.2.2 x hx hb) k.size⟩
theorem FX.keep {w w' : World} {p : Nat} {l : List Int} {q : Nat} (h : FX w p l q) (k : Kp [] w w') : FX w' p l q := by
  obtain ⟨ad, cap, h⟩ := h
  exact ⟨ad, cap, h.keep0 k⟩
/-- Ids that an index may have. -/
structure IdsOk (l : List Int) (q : Nat) : Prop where
  hq : q ≤ 16777216
  hn : l.length ≤ 1000000
  may : mayF (l.length : Nat) (q : Int)
  ids : ∀ i, i < l.length → 0 ≤ nth l i ∧ nth l i < (q : Int)
theorem IdsOk.fit {l : List Int} {q : Nat} (h : IdsOk l q) : Fit (wdF q) l := ofOk_fit (m := (q : Int)) ⟨h.may, h.ids⟩
theorem IdsOk.rng {l : List Int} {q : Nat} (h : IdsOk l q) : 1 ≤ wdF q ∧ wdF q ≤ 24 := wdF_rng q h.hq
theorem IdsOk.mem {l : List Int} {q : Nat} (h : IdsOk l q) : ∀ x ∈ l, 0 ≤ x ∧ x < (q : Int) := by
  intro x hx
  obtain ⟨i, hi, rfl⟩ := List.getElem_of_mem hx
  rw [show l[i] = nth l i by simp [nth, hi]]
  exact h.ids i hi
/-- Of's answer as it is used: the index, or the refusal. -/
theorem ofPost_fx {l : List Int} {m : Int} {w w' : World} {e : Ending} (hn : l.length ≤ 1000000) (h : OfPost l m w e w') :
    Kp [] w w' ∧ ((∃ p q, m = ((q : Nat) : Int) ∧ e = .returned (.tuple #[.pointer (some ⟨p, 0, none⟩), .int .i64 0]) ∧ w.heap.size ≤ p ∧ IdsOk l q ∧ FX w' p l q) ∨ (¬ ofOk l m ∧ e = .returned (.tuple #[.pointer none, .int .i64 2]))) := by
  obtain ⟨k, ⟨ho, p, ad, cap, rfl, hp, hc, hw⟩ | ⟨ho, rfl⟩⟩ := h
  · refine ⟨k, .inl ⟨p, m.toNat, by have := ofOk_m ho; omega, rfl, hp, ⟨by have := ofOk_m ho; omega, hn, ?_, fun i hi => ?_⟩, ad, cap, ⟨hc, hw.rd⟩, lt_of_heap hc, fun x hx hb => ?_⟩⟩
    · rw [show ((m.toNat : Nat) : Int) = m by have := ofOk_m ho; omega]; exact ho.1
    · rw [show ((m.toNat : Nat) : Int) = m by have := ofOk_m ho; omega]; exact ho.2 i hi
    · rcases hw with ⟨-, h0⟩ | ⟨g, cur, rfl, -, h2, -⟩
      · exact absurd h0 hb
      · cases hx; exact lt_of_heap h2
  · exact ⟨k, .inr ⟨ho, rfl⟩⟩

section
variable {w : World} {p : Nat} {l : List Int} {q : Nat}
theorem FX.len (h : FX w p l q) (ho : IdsOk l q) : Calls Try.prog 46 #[.pointer (some ⟨p, 0, none⟩)] w fun e w' => e = .returned (.int .i64 (l.length : Nat)) ∧ w' = w := by
  obtain ⟨ad, cap, h⟩ := h
  exact fLen_any h.1 ho.rng.1
theorem FX.many (h : FX w p l q) (ho : IdsOk l q) : Calls Try.prog 47 #[.pointer (some ⟨p, 0, none⟩)] w fun e w' => e = .returned (.int .i64 (q : Nat)) ∧ w' = w := by
  obtain ⟨ad, cap, h⟩ := h
  exact fMany_any h.1 ho.rng.1
theorem FX.width (h : FX w p l q) (ho : IdsOk l q) : Calls Try.prog 26 #[.pointer (some ⟨p, 0, none⟩)] w fun e w' => e = .returned (.int .i64 (wdF q : Nat)) ∧ w' = w := by
  obtain ⟨ad, cap, h⟩ := h
  exact fWidth_any h.1 ho.rng.1
theorem FX.count (h : FX w p l q) (ho : IdsOk l q) (id : Int) : Calls Try.prog 25 #[.pointer (some ⟨p, 0, none⟩), .int .i64 id] w fun e w' => e = .returned (.int .i64 (cI id l : Nat)) ∧ Kp [] w w' := by
  obtain ⟨ad, cap, h⟩ := h
  rw [← cntF_cI l (wdF q) ho.fit id]
  exact fCount_any p l.length q (wdF q) ad cap (packs (wdF q) l) (packs_bytes _ _) ho.rng.1 ho.rng.2 (Nat.le_trans ho.hn (by omega)) id w h
theorem FX.get (h : FX w p l q) (ho : IdsOk l q) (i : Nat) (hi : i < l.length) : Calls Try.prog 39 #[.pointer (some ⟨p, 0, none⟩), .int .i64 (i : Int)] w fun e w' => e = .returned (.tuple #[.int .i64 (nth l i), .int .i64 0]) ∧ Kp [] w w' := by
  obtain ⟨ad, cap, h⟩ := h
  have := fGet_in h.1 (packs_bytes _ _) ho.rng.1 ho.rng.2 i hi (Nat.le_trans ho.hn (by omega))
  rw [show idG (packs (wdF q) l) (wdF q) i = (nth l i).toNat by unfold idG; rw [leN_packs _ l ho.fit, gets_vn _ l ho.fit i hi], Int.toNat_of_nonneg (ho.ids i hi).1] at this
  exact this
/-- An index' bytes. -/
def imgF (l : List Int) (q : Nat) : List Int := bytesF l.length q (wdF q) (packs (wdF q) l)
theorem imgF_length (l : List Int) (q : Nat) : (imgF l q).length = 9 + sizeN l.length (wdF q) := by
  simp [imgF, bytesF, le_length, packs_length]; omega
theorem FX.bytes (h : FX w p l q) (ho : IdsOk l q) : Calls Try.prog 27 #[.pointer (some ⟨p, 0, none⟩)] w fun e w' => ∃ ad' cap', e = .returned (.slice ad' (9 + sizeN l.length (wdF q)) cap') ∧ Own w' w.heap.size 5 .u8 ad' cap' (imgF l q) ∧ Kp [] w w' := by
  obtain ⟨ad, cap, h⟩ := h
  have h1 := ho.rng
  have h2 := ho.hn
  have hs : sizeN l.length (wdF q) ≤ 100000000 := by
    have := sizeN_lt l.length (wdF q)
    have h3 : l.length * wdF q ≤ 1000000 * 24 := Nat.mul_le_mul h2 h1.2
    omega
  have := fBytes_any h.1 h1.1 h1.2 (Nat.le_trans h2 (by omega)) ho.hq (by rw [packs_length]; exact hs)
  rw [← imgF_length]
  exact this
end

theorem fGet_out {w : World} {p n m wd : Nat} {ad : Option Addr} {cap : Nat} {bs : List Int} (h : IsIdx w p n m wd ad cap bs) (hw : 1 ≤ wd) (i : Int) (hi : ¬ (0 ≤ i ∧ i < n)) :
    Calls Try.prog 39 #[.pointer (some ⟨p, 0, none⟩), .int .i64 i] w fun e w' => e = .returned (.tuple #[.int .i64 0, .int .i64 7]) ∧ w' = w := by
  have H := Lib.hid h
  obtain ⟨c0, c1, c2, c3⟩ := idx_cells h
  clear h c1 c2 c3
  by_cases h1 : i < 0
  · go_enter Try.func39, Try.ntmps39
    go_wp2_with fail
    refine (fnone_any H.out hw).mono ?_
    rintro e w7 ⟨rfl, h7⟩
    subst w7
    go_wp2_with fail
    go_ret2
    exact ⟨rfl, rfl⟩
  · have h2 : (n : Int) ≤ i := by omega
    go_enter Try.func39, Try.ntmps39
    go_wp2_with fail
    refine (fnone_any H.out hw).mono ?_
    rintro e w7 ⟨rfl, h7⟩
    subst w7
    go_wp2_with fail
    go_ret2
    exact ⟨rfl, rfl⟩
theorem FX.out {w : World} {p : Nat} {l : List Int} {q : Nat} (h : FX w p l q) (ho : IdsOk l q) (i : Int) (hi : ¬ (0 ≤ i ∧ i < (l.length : Nat))) : Calls Try.prog 39 #[.pointer (some ⟨p, 0, none⟩), .int .i64 i] w fun e w' => e = .returned (.tuple #[.int .i64 0, .int .i64 7]) ∧ w' = w := by
  obtain ⟨ad, cap, h⟩ := h
  exact fGet_out h.1 ho.rng.1 i hi

theorem r12Width_any (q : Nat) (w : World) (h : q ≤ 16777216) : Calls Try.prog 28 #[.int .i64 (q : Int)] w fun e w' => e = .returned (.int .i64 (wdF q : Int)) ∧ w' = w := by
  by_cases h0 : q = 0
  · subst h0
    go_enter Try.func28, Try.ntmps28
    go_wp2_with fail
    go_ret
    exact ⟨by rw [show wdF 0 = 1 by decide +kernel]; rfl, rfl⟩
  · obtain ⟨x, hx⟩ : ∃ x, x = q - 1 := ⟨_, rfl⟩
    have h1 : ¬ (q : Int) < 1 := by omega
    have hw : wdF q = widthN x := by rw [hx]; rfl
    have h3 : IntKind.i64.wrap ((q : Int) - 1) = (x : Int) := by rw [show (q : Int) - 1 = (x : Int) by omega]; exact IntWalk.i64_in _ (by omega)
    have h4 : (q : Int) - 1 = (x : Int) := by omega
    have h5 : IntKind.u64.wrap (x : Int) = (x : Int) := IntWalk.u64_in _ (by omega)
    have HW := Lib.hid hw
    have hx2 : x < 18446744073709551616 := by omega
    clear hx hw h0
    go_enter Try.func28, Try.ntmps28
    go_wp2_with fail
    refine (r02width_any x w hx2).mono ?_
    rintro e w7 ⟨rfl, rfl⟩
    go_wp2_with fail
    go_ret
    exact ⟨by rw [HW.out]; rfl, rfl⟩

set_option maxHeartbeats 800000 in
theorem known12 (w : World) : Calls Try.prog 23 #[] w fun e w' => e = .returned (.bool true) ∧ Kp [] w w' := by
  have hp := fun wx h => fOf_any (some ⟨w.heap.size, 0, none⟩) 3 3 [1, 0, 2] 3 rfl wx h (by omega)
  have HP := Lib.hid hp
  clear hp
  go_enter Try.func23, Try.ntmps23
  go_wp2_with fail
  refine (HP.out _ ((Own.row (k := .i64) (zs := [1, 0, 2]) (base := 0) (e := 3) (Nat.zero_le _) (heap_alloc_at rfl) (by simp)).rd)).mono ?_
  intro e w1 hpo
  obtain ⟨kp1, ⟨p, q, hq, rfl, hp, ho, hx⟩ | ⟨hbad, rfl⟩⟩ := ofPost_fx (by simp) hpo
  · obtain rfl : q = 3 := by omega
    have HO := Lib.hid ho
    have HX := Lib.hid hx
    have HK := Lib.hid ((((Kp.refl [] w).alloc _).tr kp1 : Kp [] w w1))
    clear hpo kp1 hq ho hx hp
    go_wp2_with fail
    refine (HX.out.get HO.out 2 (by simp)).mono ?_
    rw [show nth [1, 0, 2] 2 = 2 by rfl]
    rintro e w2 ⟨rfl, kp2⟩
    have HX2 := Lib.hid (HX.out.keep kp2)
    have HK2 := Lib.hid (HK.out.tr kp2)
    clear kp2
    go_wp2_with fail
    refine (HX2.out.bytes HO.out).mono ?_
    rw [show 9 + sizeN ([1, 0, 2] : List Int).length (wdF 3) = 10 by decide +kernel, show imgF [1, 0, 2] 3 = [3, 0, 0, 0, 3, 0, 0, 0, 2, 33] by decide +kernel]
    rintro e w3 ⟨ad3, cap3, rfl, ho3, kp3⟩
    have HX3 := Lib.hid (HX2.out.keep kp3)
    have HK3 := Lib.hid (HK2.out.tr kp3)
    have hcv := conv_str (P := Try.prog) w3 24 9 5 Try.underlying24 Try.underlying5 Try.underlying9 ad3 cap3 10 [3, 0, 0, 0, 3, 0, 0, 0, 2, 33] ho3.rd rfl
    rw [show strOfNums [3, 0, 0, 0, 3, 0, 0, 0, 2, 33] = ⟨#[3, 0, 0, 0, 3, 0, 0, 0, 2, 33]⟩ from by decide +kernel] at hcv
    clear ho3 kp3
    go_wp2_with fail
    clear hcv
    refine (HX3.out.count HO.out 0).mono ?_
    rw [show cI 0 [1, 0, 2] = 1 by decide +kernel]
    rintro e w4 ⟨rfl, kp4⟩
    have HX4 := Lib.hid (HX3.out.keep kp4)
    have HK4 := Lib.hid (HK3.out.tr kp4)
    clear kp4
    go_wp2_with fail
    refine (HX4.out.width HO.out).mono ?_
    rw [show wdF 3 = 2 by decide +kernel]
    rintro e w5 ⟨rfl, h5⟩
    subst w5
    go_wp2_with fail
    go_ret
    exact ⟨rfl, HK4.out⟩
  · refine absurd ⟨.inl ⟨by omega, by omega⟩, fun i hi => ?_⟩ hbad
    rcases i with _ | _ | _ | i
    · exact ⟨by decide, by decide⟩
    · exact ⟨by decide, by decide⟩
    · exact ⟨by decide, by decide⟩
    · simp at hi; omega
end Go.Proofs.Ytgdiffabnalidaa
