/-
  Forward: how an index is made.
-/
import Derived.Test.YtgdiffabnalidaaFor
import Derived.Test.YtgdiffabnalidaaCurW
namespace Go.Proofs.Ytgdiffabnalidaa
open Go.RowKit
set_option linter.unusedSimpArgs false
set_option linter.unusedVariables false

/-- How many bits the ids below m take. -/
def wdF (m : Nat) : Nat := widthN (m - 1)
theorem wdF_rng (m : Nat) (h : m ≤ 16777216) : 1 ≤ wdF m ∧ wdF m ≤ 24 := by
  have := Lib.bitLen_le (m - 1) 24 (by omega) (by omega)
  unfold wdF widthN; omega
theorem fwidth_any (m : Nat) (w : World) (h : m ≤ 16777216) : Calls Try.prog 41 #[.int .i64 (m : Int)] w fun e w' => e = .returned (.int .i64 (wdF m : Int)) ∧ w' = w := by
  by_cases h0 : m = 0
  · subst h0
    go_enter Try.func41, Try.ntmps41
    go_wp2_with fail
    refine (pwidth_any 0 w (by omega)).mono ?_
    rintro e w7 ⟨rfl, rfl⟩
    go_wp2_with fail
    go_ret
    exact ⟨rfl, rfl⟩
  · obtain ⟨x, rfl⟩ : ∃ x, m = x + 1 := ⟨m - 1, by omega⟩
    have e1 : ((x + 1 : Nat) : Int) - 1 = (x : Int) := by omega
    have h3 : IntKind.i64.wrap (((x + 1 : Nat) : Int) - 1) = (x : Int) := by rw [e1]; exact IntWalk.i64_in _ (by omega)
    obtain ⟨q, hq⟩ : ∃ q, q = x + 1 := ⟨_, rfl⟩
    rw [← hq] at h3 ⊢
    have hx : ¬ (0 : Int) > (x : Int) := by omega
    have hx64 : IntKind.u64.wrap (x : Int) = (x : Int) := IntWalk.u64_in _ (by omega)
    have hw : wdF q = widthN x := by rw [hq]; rfl
    have HW := Lib.hid hw
    have hqi : (q : Int) - 1 = (x : Int) := by omega
    clear hw hq e1 h0
    have hmx : ∀ wx, (Builtin.max_ #[3, 3] 3 #[.int .i64 (x : Int), .int .i64 0]).run Try.prog wx = .ok (.int .i64 (x : Int)) wx := fun wx => by
      simp [Builtin.max_, Builtin.max2]; omega
    go_enter Try.func41, Try.ntmps41
    go_wp2_with fail
    refine (pwidth_any x w (by omega)).mono ?_
    rintro e w7 ⟨rfl, rfl⟩
    go_wp2_with fail
    go_ret
    exact ⟨by rw [HW.out]; rfl, rfl⟩
theorem widthN_two : ∀ (x : Nat), 1 ≤ x → x < 18446744073709551616 → x < 2 ^ widthN x ∧ 2 ^ (widthN x - 1) ≤ x := by
  intro x
  induction x using Nat.strongRecOn with
  | ind x ih =>
    intro h1 h2
    by_cases hx : x = 1
    · subst hx; decide +kernel
    · have h3 := widthN_half x (by omega) h2
      obtain ⟨h4, h5⟩ := ih (x / 2) (by omega) (by omega) (by omega)
      have h6 := (widthN_le (x / 2) (by omega)).1
      obtain ⟨y, hy⟩ : ∃ y, widthN (x / 2) = y + 1 := ⟨widthN (x / 2) - 1, by omega⟩
      rw [hy] at h4 h5
      rw [h3, hy]
      rw [show 1 + (y + 1) = y + 2 by omega, show y + 2 - 1 = y + 1 by omega]
      rw [show y + 1 - 1 = y by omega] at h5
      simp only [Nat.pow_succ] at *
      omega
/-- May so many ids be? -/
def mayF (n m : Int) : Prop := (1 ≤ m ∧ m ≤ 16777216) ∨ (m = 0 ∧ n = 0)
instance (n m : Int) : Decidable (mayF n m) := by unfold mayF; infer_instance
theorem fmay_any (n m : Int) (w : World) : Calls Try.prog 40 #[.int .i64 n, .int .i64 m] w fun e w' => e = .returned (.bool (decide (mayF n m))) ∧ w' = w := by
  go_enter Try.func40, Try.ntmps40
  by_cases h1 : 1 ≤ m
  · by_cases h2 : m ≤ 16777216
    · go_wp2_with fail
      go_ret
      exact ⟨by rw [decide_eq_true (show mayF n m from .inl ⟨h1, h2⟩)]; rfl, rfl⟩
    · have h3 : (m == 0) = false := by simp; omega
      go_wp2_with fail
      go_ret
      exact ⟨by rw [decide_eq_false (show ¬ mayF n m from fun h => by rcases h with h | h <;> omega)]; rfl, rfl⟩
  · cases h3 : m == 0
    · go_wp2_with fail
      go_ret
      exact ⟨by rw [decide_eq_false (show ¬ mayF n m from fun h => by simp at h3; rcases h with h | h <;> omega)]; rfl, rfl⟩
    · cases h4 : n == 0
      · go_wp2_with fail
        go_ret
        exact ⟨by rw [decide_eq_false (show ¬ mayF n m from fun h => by simp at h3 h4; rcases h with h | h <;> omega)]; rfl, rfl⟩
      · go_wp2_with fail
        go_ret
        exact ⟨by rw [decide_eq_true (show mayF n m from .inr ⟨by simpa using h3, by simpa using h4⟩)]; rfl, rfl⟩
/-- May these ids be? -/
def ofOk (l : List Int) (m : Int) : Prop := mayF l.length m ∧ ∀ i, i < l.length → 0 ≤ nth l i ∧ nth l i < m
theorem ofOk_m {l : List Int} {m : Int} (h : ofOk l m) : 0 ≤ m ∧ m ≤ 16777216 := by rcases h.1 with h | h <;> omega
theorem ofOk_fit {l : List Int} {m : Int} (h : ofOk l m) : Fit (wdF m.toNat) l := by
  intro z hz
  obtain ⟨i, hi, rfl⟩ := List.getElem_of_mem hz
  have h1 := h.2 i hi
  rw [show nth l i = l[i] by simp [nth, hi]] at h1
  have h2 := ofOk_m h
  refine ⟨h1.1, ?_⟩
  by_cases h3 : m.toNat - 1 = 0
  · have : l[i].toNat = 0 := by omega
    rw [this]; exact Nat.pow_pos (by omega)
  · have := (widthN_two (m.toNat - 1) (by omega) (by omega)).1
    show _ < 2 ^ widthN (m.toNat - 1)
    omega
/-- What Of comes to. -/
def OfPost (l : List Int) (m : Int) (w : World) (e : Ending) (w' : World) : Prop :=
  Kp [] w w' ∧ ((ofOk l m ∧ ∃ p ad cap, e = .returned (.tuple #[.pointer (some ⟨p, 0, none⟩), .int .i64 0]) ∧ w.heap.size ≤ p ∧ w'.heap[p]? = some (.cells #[.int .i64 (l.length : Nat), .int .i64 (m.toNat : Nat), .int .i64 (wdF m.toNat : Nat), .slice ad (packs (wdF m.toNat) l).length cap] 63) ∧ Own w' w.heap.size 5 .u8 ad cap (packs (wdF m.toNat) l)) ∨
    (¬ ofOk l m ∧ e = .returned (.tuple #[.pointer none, .int .i64 2])))

set_option maxHeartbeats 1600000 in
set_option maxRecDepth 100000 in
theorem fOf_any (a0 : Option Addr) (cap0 n : Nat) (l : List Int) (m : Int) (hn : n = l.length) (w : World) (h : Rd w .i64 a0 cap0 l) (hnb : n ≤ 1000000) :
    Calls Try.prog 24 #[.slice a0 n cap0, .int .i64 m] w (OfPost l m w) := by
  have H := Lib.hid h
  have HN := Lib.hid hn
  have hcap := h.1
  rw [← hn] at hcap
  have hcap2 := h.2.1
  clear h hn
  go_enter Try.func24, Try.ntmps24
  go_wp2_with fail
  refine (fmay_any (n : Int) m w).mono ?_
  rintro e w7 ⟨rfl, h7⟩
  subst w7
  by_cases hm : mayF (n : Int) m
  · rw [decide_eq_true hm]
    have HM := Lib.hid hm
    have hmr : 0 ≤ m ∧ m ≤ 16777216 := by rcases hm with h | h <;> omega
    obtain ⟨q, rfl⟩ := Int.eq_ofNat_of_zero_le hmr.1
    have hq : q ≤ 16777216 := by omega
    have hmk : ∀ wx : World, _ := fun wx => make_ints (P := Try.prog) wx 22 31 .u64 .i64 .i64 n 8 Try.underlying22 infoU64 (by omega) (by omega)
    clear hm hmr
    go_upto_region 4 with (fail)
    have ho0 : Own (w.alloc (.cells (ints .u64 (List.replicate n 0)) 31)) w.heap.size 31 .u64 (some ⟨w.heap.size, 0, none⟩) n (List.replicate n 0) := by
      have := Own.row (k := .u64) (zs := List.replicate n 0) (base := w.heap.size) (e := 31) (Nat.le_refl _) (heap_alloc_at (w := w) (o := .cells (ints .u64 (List.replicate n 0)) 31) rfl) (by simp; omega)
      rw [List.length_replicate] at this
      exact this
    have kp0 : Kp [] w (w.alloc (.cells (ints .u64 (List.replicate n 0)) 31)) := (Kp.refl [] w).alloc _
    generalize w.alloc (.cells (ints .u64 (List.replicate n 0)) 31) = w1 at *
    obtain ⟨g, hg⟩ : ∃ g, g = w.heap.size := ⟨_, rfl⟩
    rw [← hg] at ho0 ⊢
    have HG := Lib.hid hg
    clear hmk hg
    go_wp2_with fail
    go_loopw [7, 8, 22] (fun _ _ vi wr => ∃ (k : Nat) (s : List Int), k ≤ n ∧ vi = .int .i64 k ∧ Hid (s.length = n) ∧ Hid (∀ i, i < k → nth s i = nth l i ∧ 0 ≤ nth l i ∧ nth l i < (q : Int)) ∧ Hid (Own wr g 31 .u64 (some ⟨g, 0, none⟩) n s) ∧ Hid (Kp [] w wr)) (fun _ _ vi _ => n - (intOf vi).toNat)
    case atStart => exact ⟨0, List.replicate n 0, Nat.zero_le _, rfl, Lib.hid (by simp), Lib.hid (fun i hi => by omega), Lib.hid ho0, Lib.hid kp0⟩
    case round =>
      obtain ⟨k, s, hk, rfl, HS, HE, HO, HK⟩ := hrel
      clear ho0 kp0
      by_cases hlt : k < n
      · obtain ⟨b, off, rfl, c0⟩ := (H.out.keep0 HK.out).2.2 k (by rw [← HN.out]; exact hlt)
        obtain ⟨g', eg, cq, fq, -, -⟩ := HO.out.at' (i := k) (by rw [HS.out]; exact hlt)
        cases eg
        obtain ⟨z, hz⟩ : ∃ z, z = nth l k := ⟨_, rfl⟩
        rw [← hz] at c0
        have HZ := Lib.hid hz
        clear hz
        by_cases h1 : z < 0
        · go_wp2_with fail
          go_ret2
          exact ⟨HK.out, .inr ⟨fun ho => by have := (ho.2 k (by rw [← HN.out]; exact hlt)).1; rw [← HZ.out] at this; omega, rfl⟩⟩
        · by_cases h2 : (q : Int) ≤ z
          · go_wp2_with fail
            go_ret2
            exact ⟨HK.out, .inr ⟨fun ho => by have := (ho.2 k (by rw [← HN.out]; exact hlt)).2; rw [← HZ.out] at this; omega, rfl⟩⟩
          · have hz64 : IntKind.u64.wrap z = z := IntWalk.u64_in _ (by omega)
            generalize nth s k = y at *
            go_wp2_with fail
            go_roundw
            case rel => exact ⟨k + 1, s.set k z, hlt, by go_num, Lib.hid (by rw [List.length_set]; exact HS.out), Lib.hid (fun i hi => by
              by_cases hik : i = k
              · subst hik
                exact ⟨by rw [← HZ.out]; simp [nth, HS.out, hlt], by rw [← HZ.out]; omega, by rw [← HZ.out]; omega⟩
              · have := HE.out i (by omega)
                exact ⟨by rw [← this.1]; simp [nth, List.getElem?_set, Ne.symm hik], this.2⟩), Lib.hid (HO.out.set k z), Lib.hid (HK.out.setCell _ _ (.inr (by rw [HG.out]; exact Nat.le_refl _)))⟩
            case measure => simp [intOf]; omega
      · obtain rfl : k = n := by omega
        have hsl : s = l := by
          apply List.ext_getElem (by rw [HS.out, HN.out])
          intro i h1 h2
          have := (HE.out i (by rw [HS.out] at h1; exact h1)).1
          simpa [nth, h1, h2] using this
        subst hsl
        have HOK : Hid (ofOk s (q : Int)) := Lib.hid ⟨by rw [← HN.out]; exact HM.out, fun i hi => (HE.out i (by rw [HN.out]; exact hi)).2⟩
        have hwr := wdF_rng q hq
        have HFT := Lib.hid (ofOk_fit HOK.out)
        have HU : Hid (U64s s) := Lib.hid (fun z hz => by
          obtain ⟨i, hi, rfl⟩ := List.getElem_of_mem hz
          have := (HOK.out.2 i hi)
          rw [show nth s i = s[i] by simp [nth, hi]] at this
          omega)
        have hl3 : ¬ (16777216 : Int) < (k : Int) := by omega
        go_wp2_with fail
        refine (fwidth_any q wr hq).mono ?_
        rintro e w7 ⟨rfl, h7⟩
        subst w7
        go_wp2_with fail
        refine (pack_any (some ⟨g, 0, none⟩) k k (wdF q) s HN.out wr HO.out.rd HU.out ⟨by omega, by omega, by omega, by omega⟩ hnb).mono ?_
        rintro e w8 ⟨kp8, ⟨-, ad8, cap8, rfl, ho8⟩ | ⟨hbad, -⟩⟩
        · have HO8 := Lib.hid ho8
          have HK8 := Lib.hid (HK.out.tr kp8)
          have hs8 := HK.out.size
          clear ho8 kp8
          go_wp2_with fail
          go_ret2
          refine ⟨HK8.out.alloc _, .inl ⟨HOK.out, w8.heap.size, ad8, cap8, rfl, HK8.out.size, ?_, (HO8.out.alloc _).mono hs8⟩⟩
          rw [heap_alloc_at rfl, packs, le_length, ← HN.out]; rfl
        · exact absurd HFT.out hbad
  · rw [decide_eq_false hm]
    have HM := Lib.hid hm
    clear hm
    go_wp2_with fail
    go_ret2
    exact ⟨Kp.refl _ _, .inr ⟨fun ho => HM.out (by rw [HN.out]; exact ho.1), rfl⟩⟩
end Go.Proofs.Ytgdiffabnalidaa
