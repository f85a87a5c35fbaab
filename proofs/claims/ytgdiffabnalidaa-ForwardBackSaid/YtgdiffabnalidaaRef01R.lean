/-
  What the reader of isinglassref01 tells.
-/
import Derived.Test.YtgdiffabnalidaaCursorN
import Derived.Test.YtgdiffabnalidaaRef01
namespace Go.Proofs.Ytgdiffabnalidaa
open Go.RowKit
set_option linter.unusedSimpArgs false
set_option linter.unusedVariables false
variable {L : Nat → Prop}

/-- A reader at block p: its bytes, its place, whether it is bad. -/
def Rdr01 (w : World) (L : Nat → Prop) (p : Nat) (bs : List Int) (at' : Nat) (bad : Bool) : Prop :=
  ∃ ad cap, w.heap[p]? = some (.cells #[.slice ad bs.length cap, .int .i64 at', .bool bad] 74) ∧ Rd w .u8 ad cap bs ∧ (∀ x, ad = some x → bs ≠ [] → x.block ≠ p) ∧ at' ≤ bs.length ∧ bs.length ≤ 1099511627776 ∧ L p ∧ ∀ x, ad = some x → bs ≠ [] → L x.block

theorem rdr01_cells {w : World} {p : Nat} {s : Value} {a : Int} {b : Bool} (h : w.heap[p]? = some (.cells #[s, .int .i64 a, .bool b] 74)) :
    w.cell? ⟨p, 0, none⟩ = some s ∧ w.cell? ⟨p, 1, none⟩ = some (.int .i64 a) ∧ w.cell? ⟨p, 2, none⟩ = some (.bool b) ∧ w.frozen? ⟨p, 1, none⟩ = false ∧ w.frozen? ⟨p, 2, none⟩ = false :=
  ⟨cell_of_row w p 0 _ _ _ h, cell_of_row w p 1 _ _ _ h, cell_of_row w p 2 _ _ _ h, frozen_of_row w p 1 _ _ h, frozen_of_row w p 2 _ _ h⟩
theorem Rdr01.keep {w w' : World} {L : Nat → Prop} {p : Nat} {bs : List Int} {a : Nat} {b : Bool} (h : Rdr01 w L p bs a b) (k : Kp [] w w') : Rdr01 w' L p bs a b :=
  let ⟨ad, cap, h1, h2, h3⟩ := h; ⟨ad, cap, k.get h1 (by simp), h2.keep0 k, h3⟩

theorem Rdr01.mono {w : World} {L L' : Nat → Prop} {p : Nat} {bs : List Int} {a : Nat} {b : Bool} (h : Rdr01 w L p bs a b) (hL : ∀ x, L x → L' x) : Rdr01 w L' p bs a b :=
  let ⟨ad, cap, h1, h2, h3, h4, h5, h6, h7⟩ := h; ⟨ad, cap, h1, h2, h3, h4, h5, hL _ h6, fun x hx hne => hL _ (h7 x hx hne)⟩
theorem Rdr01.lt {w : World} {L : Nat → Prop} {p : Nat} {bs : List Int} {a : Nat} {b : Bool} (h : Rdr01 w L p bs a b) : L p := let ⟨_, _, _, _, _, _, _, h6, _⟩ := h; h6
theorem Rdr01.le {w : World} {L : Nat → Prop} {p : Nat} {bs : List Int} {a : Nat} {b : Bool} (h : Rdr01 w L p bs a b) : a ≤ bs.length ∧ bs.length ≤ 1099511627776 := let ⟨_, _, _, _, _, h4, h5, _, _⟩ := h; ⟨h4, h5⟩

theorem Rdr01.keepS {w w' : World} {L : Nat → Prop} {p : Nat} {bs : List Int} {a : Nat} {b : Bool} (h : Rdr01 w L p bs a b) {S : List Nat} (k : Kp S w w') (hS : ∀ x, x ∈ S → ¬ L x) : Rdr01 w' L p bs a b := by
  obtain ⟨ad, cap, h1, h2, h3, h4, h5, h6, h7⟩ := h
  exact ⟨ad, cap, k.get h1 (fun hm => hS p hm h6), h2.keepne k (fun x hx hne hm => hS _ hm (h7 x hx hne)), h3, h4, h5, h6, h7⟩


theorem Rdr01.step {w : World} {L : Nat → Prop} {p : Nat} {bs : List Int} {a n : Nat} (h : Rdr01 w L p bs a false) (hn : a + n ≤ bs.length) : Rdr01 (w.setCell ⟨p, 1, none⟩ (.int .i64 ((a : Int) + (n : Int)))) L p bs (a + n) false := by
  obtain ⟨ad, cap, h1, h2, h3, h4, h5⟩ := h
  have kp := (Kp.refl [p] w).setCell ⟨p, 1, none⟩ (.int .i64 ((a : Int) + n)) (by simp)
  exact ⟨ad, cap, by rw [Int.natCast_add]; exact heap_setCell_same w p 1 _ _ _ h1, h2.keepne kp (by simpa using h3), h3, hn, h5⟩
theorem Rdr01.spoil {w : World} {L : Nat → Prop} {p : Nat} {bs : List Int} {a : Nat} {b : Bool} (h : Rdr01 w L p bs a b) : Rdr01 (w.setCell ⟨p, 2, none⟩ (.bool true)) L p bs a true := by
  obtain ⟨ad, cap, h1, h2, h3, h4, h5⟩ := h
  have kp := (Kp.refl [p] w).setCell ⟨p, 2, none⟩ (.bool true) (by simp)
  exact ⟨ad, cap, heap_setCell_same w p 2 _ _ _ h1, h2.keepne kp (by simpa using h3), h3, h4, h5⟩

theorem leN_drop (l : List Int) (k : Nat) (h : k < l.length) : leN (l.drop k) = (nth l k).toNat + 256 * leN (l.drop (k + 1)) := by
  rw [List.drop_eq_getElem_cons h, leN]; simp [nth, h]

set_option maxHeartbeats 800000 in
theorem r01number_yes (p : Nat) (bs : List Int) (a n : Nat) (w : World) (h : Rdr01 w L p bs a false) (hb : Bytes8 bs) (hn : a + n ≤ bs.length) (h8 : n ≤ 8) :
    Calls Try.prog 55 #[.pointer (some ⟨p, 0, none⟩), .int .i64 n] w fun e w' => e = .returned (.int .u64 (leN (sub bs a (a + n)))) ∧ Rdr01 w' L p bs (a + n) false ∧ Kp [p] w w' := by
  have H := Lib.hid h
  have hle := h.le
  obtain ⟨l, hl⟩ : ∃ l, l = sub bs a (a + n) := ⟨_, rfl⟩
  have hlen : l.length = n := by rw [hl, sub_length _ _ _ hn]; omega
  have HL := Lib.hid hlen
  have HE := Lib.hid hl
  have HB : Hid (Bytes8 l) := by rw [hl]; exact Lib.hid (hb.sub _ _)
  obtain ⟨ad, cap, h1, h2, h3, h4, h5⟩ := h
  obtain ⟨c0, c1, c2, f1, f2⟩ := rdr01_cells h1
  have HC := Lib.hid h1
  have HD := Lib.hid h2
  have t1 : IntKind.i64.wrap ((bs.length : Int) - (a : Int)) = ((bs.length - a : Nat) : Int) := by rw [IntWalk.i64_in _ (by omega)]; omega
  have t2 : ¬ ((bs.length - a : Nat) : Int) < (n : Int) := by omega
  clear h1 h2 h3 hl hlen hb
  go_enter Try.func55, Try.ntmps55
  go_wp2
  go_quiet (fail)
  go_wp2
  clear t1 t2
  go_loopw [5, 6] (fun v i wr => ∃ j : Nat, j ≤ n ∧ i = .int .i64 ((j : Int) - 1) ∧ v = .int .u64 ((leN (l.drop j) : Nat) : Int) ∧ Kp [] w wr) (fun _ i _ => (intOf i + 1).toNat)
  case atStart => exact ⟨n, Nat.le_refl _, rfl, by rw [List.drop_of_length_le (by rw [HL.out]; exact Nat.le_refl _)]; rfl, ⟨rfl, rfl, rfl, Nat.le_refl _, fun _ _ _ => rfl⟩⟩
  case round =>
    obtain ⟨j, hj, rfl, rfl, kp⟩ := hrel
    obtain ⟨c0', c1', c2', f1', f2'⟩ := rdr01_cells (kp.get HC.out (by simp))
    by_cases hj0 : j = 0
    · subst hj0
      clear c0 c1 c2 f1 f2 c0' c2' f2'
      have hx : IntKind.i64.wrap ((a : Int) + n) = ((a + n : Nat) : Int) := by rw [IntWalk.i64_in _ (by omega)]; omega
      go_wp2
      go_ret
      refine ⟨?_, ?_, ?_⟩
      · rw [List.drop_zero, ← HE.out]; rfl
      · exact (H.out.keep kp).step hn
      · exact kp.trans ((Kp.refl [p] wr).setCell _ _ (by simp)) (by simp) (by simp)
    · obtain ⟨k, rfl⟩ : ∃ k, j = k + 1 := ⟨j - 1, by omega⟩
      have hk : k < l.length := by rw [HL.out]; omega
      have hxb := HB.out (nth l k) (nth_mem hk)
      obtain ⟨x, hx⟩ : ∃ x : Nat, nth l k = (x : Int) := Int.eq_ofNat_of_zero_le hxb.1
      obtain ⟨b, off, rfl, hc⟩ := (HD.out.keep0 kp).2.2 (a + k) (by omega)
      have hxe : nth bs (a + k) = (x : Int) := by rw [← hx, HE.out, nth_sub _ _ _ _ (by omega)]
      rw [hxe] at hc
      have hst := leN_drop l k hk
      obtain ⟨m, hm⟩ : ∃ m, m = leN (l.drop (k + 1)) := ⟨_, rfl⟩
      have hmb : m < 256 ^ 7 := by
        have := leN_lt (l.drop (k + 1)) (fun z hz => HB.out z (List.mem_of_mem_drop hz))
        rw [← hm, List.length_drop, HL.out] at this
        exact Nat.lt_of_lt_of_le this (Nat.pow_le_pow_right (by omega) (by omega))
      have hmb2 : m < 72057594037927936 := hmb
      have s1 : IntKind.u64.wrap ((m : Int) * 256) = ((m * 256 : Nat) : Int) := by rw [IntWalk.u64_in _ (by omega)]; omega
      have s2 : IntKind.u64.wrap (((m * 256 : Nat) : Int) + (x : Int)) = ((m * 256 + x : Nat) : Int) := by rw [IntWalk.u64_in _ (by omega)]; omega
      have s3 : ((k + 1 : Nat) : Int) - 1 = (k : Int) := by omega
      have s4 : IntKind.i64.wrap ((a : Int) + (k : Int)) = ((a + k : Nat) : Int) := by rw [IntWalk.i64_in _ (by omega)]; omega
      have HX : Hid (0 ≤ (x : Int) ∧ (x : Int) ≤ 255) := by rw [hx] at hxb; exact hxb
      rw [← hm, s3]
      rw [hx, ← hm] at hst
      have HST := Lib.hid hst
      have hk2 : a + k < bs.length := by omega
      clear hst hx hxe hm s3 hmb c0 c1 c2 f1 f2 hxb hj0
      go_wp2
      go_quiet (fail)
      go_wp2
      have hxl := HX.out
      go_roundw
      case rel =>
        refine ⟨k, by omega, rfl, ?_, ⟨kp.os, kp.tape, kp.output, kp.size, kp.block⟩⟩
        rw [IntWalk.u64_in (x : Int) (by omega), IntWalk.u64_in _ (by omega), HST.out]
        simp only [Int.toNat_natCast]
        exact congrArg _ (by omega)
      case measure => simp [intOf] <;> omega

set_option maxHeartbeats 800000 in
theorem r01number_no (p : Nat) (bs : List Int) (a n : Nat) (b : Bool) (w : World) (h : Rdr01 w L p bs a b) (hn : ¬ (b = false ∧ a + n ≤ bs.length)) :
    Calls Try.prog 55 #[.pointer (some ⟨p, 0, none⟩), .int .i64 n] w fun e w' => e = .returned (.int .u64 0) ∧ Rdr01 w' L p bs a true ∧ Kp [p] w w' := by
  have H := Lib.hid h
  have hle := h.le
  obtain ⟨ad, cap, h1, h2, h3, h4, h5⟩ := h
  obtain ⟨c0, c1, c2, f1, f2⟩ := rdr01_cells h1
  have kd : ∀ nq, Kp [] w (w.drewN nq) := fun nq => ⟨rfl, rfl, rfl, Nat.le_refl _, fun _ _ _ => rfl⟩
  clear h1 h2 h3
  cases b with
  | true =>
    have hd : decide (true = true) = true := rfl
    clear hn
    go_enter Try.func55, Try.ntmps55
    go_wp2
    go_quiet (fail)
    go_wp2
    go_ret
    refine ⟨rfl, ?_, ?_⟩
    · exact (H.out.keep (kd _)).spoil
    · exact (kd _).trans ((Kp.refl [p] _).setCell _ _ (by simp)) (by simp) (by simp)
  | false =>
    have t1 : IntKind.i64.wrap ((bs.length : Int) - (a : Int)) = ((bs.length - a : Nat) : Int) := by rw [IntWalk.i64_in _ (by omega)]; omega
    have t2 : bs.length - a < n := by simp at hn; omega
    clear hn
    go_enter Try.func55, Try.ntmps55
    go_wp2
    go_quiet (fail)
    go_wp2
    go_ret
    refine ⟨rfl, ?_, ?_⟩
    · exact (H.out.keep (kd _)).spoil
    · exact (kd _).trans ((Kp.refl [p] _).setCell _ _ (by simp)) (by simp) (by simp)

theorem r01number_any (p : Nat) (bs : List Int) (a : Nat) (b : Bool) (n : Nat) (w : World) (h : Rdr01 w L p bs a b) (hb : Bytes8 bs) (h8 : n ≤ 8) :
    Calls Try.prog 55 #[.pointer (some ⟨p, 0, none⟩), .int .i64 n] w fun e w' => e = .returned (.int .u64 (rdN bs a b n)) ∧ Rdr01 w' L p bs (rdA bs a b n) (rdB bs a b n) ∧ Kp [p] w w' := by
  by_cases hc : b = false ∧ a + n ≤ bs.length
  · obtain ⟨rfl, hc⟩ := hc
    obtain ⟨e1, e2, e3⟩ := rd_yes hc
    rw [e1, e2, e3]
    exact r01number_yes p bs a n w h hb hc h8
  · obtain ⟨e1, e2, e3⟩ := rd_no hc
    rw [e1, e2, e3]
    exact r01number_no p bs a n b w h hc
end Go.Proofs.Ytgdiffabnalidaa
