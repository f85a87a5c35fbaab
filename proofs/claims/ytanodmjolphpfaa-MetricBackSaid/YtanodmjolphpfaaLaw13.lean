/-
  The walk of MetricEnds: it returns true.
-/
import Derived.Test.YtanodmjolphpfaaMetricB
import Derived.Deep.QuietTactic
import Derived.BigQuiet
namespace Go.Proofs.Ytanodmjolphpfaa
open Go.RowKit
set_option linter.unusedSimpArgs false
set_option linter.unusedVariables false

theorem of_col (ad : Option Addr) (cap : Nat) (zs : List Int) (n : Nat) (hn : n = zs.length) (w : World) (hr : Rd w .i64 ad cap zs) (hm : zs.length ≤ 16777216) :
    Calls Try.prog 14 #[.slice ad n cap] w fun e w' => ∃ c, e = .returned (.tuple #[.pointer (some ⟨c, 0, none⟩), .int .i64 0]) ∧ w.heap.size < c ∧ IsCol w' c zs ∧ Kp [] w w' := by
  subst hn
  refine (of_any ad cap zs w hr hm).mono ?_
  rintro e w' ⟨q, c, he, h1, h2, h3, h4, h5, h6⟩
  exact ⟨c, he, by omega, ⟨q, h3, hm, h4, h5⟩, h6⟩

theorem bytes_len (c : Nat) (zs : List Int) (w : World) (h : IsCol w c zs) :
    Calls Try.prog 22 #[.pointer (some ⟨c, 0, none⟩)] w fun e w' => ∃ ad cap, e = .returned (.slice ad (20 + 8 * zs.length) cap) ∧ Own w' w.heap.size 5 .u8 ad cap (colBytes zs) ∧ Kp [] w w' := by
  refine (bytes_any c zs w h).mono ?_
  rintro e w' ⟨ad, cap, he, h1, h2⟩
  refine ⟨ad, cap, ?_, h1, h2⟩
  rw [he, colBytes, List.length_append, colHead_length, u64s_length]

set_option maxHeartbeats 400000 in
theorem known13 (w : World) : Calls Try.prog 13 #[] w fun e w' => e = .returned (.bool true) ∧ Kp [] w w' := by
  go_enter Try.func13, Try.ntmps13
  go_wp2_with fail
  refine (of_col (some ⟨w.heap.size, 0, none⟩) 2 [3, -1] 2 rfl _ ⟨by simp, by simp, fun i hi => ⟨_, _, rfl, ?_⟩⟩ (by simp)).mono ?_
  · rw [World.cell?_alloc_at _ _ _ _ rfl]
    have : i = 0 ∨ i = 1 := by simp at hi; omega
    rcases this with rfl | rfl <;> rfl
  rintro e w1 ⟨c, rfl, hc0, hc, kp1⟩
  have kw : Kp [] w w1 := ((Kp.refl [] w).alloc _).trans kp1 (by simp) (by simp)
  have HC := Lib.hid hc
  clear hc kp1
  go_wp2_with fail
  refine (get_any c [3, -1] 2 _ HC.out).mono ?_
  rintro e w2 ⟨rfl, rfl⟩
  simp only [show getv [3, -1] 2 = 0 from rfl, show gete [3, -1] 2 = 7 from rfl]
  go_wp2_with fail
  refine (get_any c [3, -1] 1 _ HC.out).mono ?_
  rintro e w2 ⟨rfl, rfl⟩
  simp only [show getv [3, -1] 1 = -1 from rfl, show gete [3, -1] 1 = 0 from rfl]
  go_wp2_with fail
  refine (least_any c [3, -1] _ HC.out).mono ?_
  rintro e w2 ⟨rfl, rfl⟩
  simp only [show lows [3, -1] = -1 from rfl]
  go_wp2_with fail
  refine (greatest_any c [3, -1] _ HC.out).mono ?_
  rintro e w2 ⟨rfl, rfl⟩
  simp only [show highs [3, -1] = 3 from rfl]
  go_wp2_with fail
  refine (bytes_len c [3, -1] _ HC.out).mono ?_
  rintro e w2 ⟨ad, cap, rfl, -, kp2⟩
  simp only [show 20 + 8 * [(3 : Int), -1].length = 36 from rfl]
  go_wp2_with fail
  go_ret
  exact ⟨rfl, kw.trans kp2 (by simp) (by simp)⟩

/-- Numbers of 64 bits. -/
def I64s (zs : List Int) : Prop := ∀ z ∈ zs, -9223372036854775808 ≤ z ∧ z ≤ 9223372036854775807

theorem foldl_min_le (zs : List Int) : ∀ a, zs.foldl min a ≤ a ∧ ∀ z ∈ zs, zs.foldl min a ≤ z := by
  induction zs with
  | nil => intro a; simp
  | cons x l ih =>
    intro a
    have := ih (min a x)
    refine ⟨by simp only [List.foldl_cons]; omega, fun z hz => ?_⟩
    rcases List.mem_cons.1 hz with rfl | hz
    · simp only [List.foldl_cons]; omega
    · exact this.2 z hz
theorem foldl_max_le (zs : List Int) : ∀ a, a ≤ zs.foldl max a ∧ ∀ z ∈ zs, z ≤ zs.foldl max a := by
  induction zs with
  | nil => intro a; simp
  | cons x l ih =>
    intro a
    have := ih (max a x)
    refine ⟨by simp only [List.foldl_cons]; omega, fun z hz => ?_⟩
    rcases List.mem_cons.1 hz with rfl | hz
    · simp only [List.foldl_cons]; omega
    · exact this.2 z hz
theorem foldl_min_mem (zs : List Int) : ∀ a, zs.foldl min a = a ∨ zs.foldl min a ∈ zs := by
  induction zs with
  | nil => intro a; simp
  | cons x l ih =>
    intro a
    rcases ih (min a x) with h | h
    · simp only [List.foldl_cons, h, List.mem_cons]; omega
    · exact .inr (List.mem_cons_of_mem _ h)
theorem foldl_max_mem (zs : List Int) : ∀ a, zs.foldl max a = a ∨ zs.foldl max a ∈ zs := by
  induction zs with
  | nil => intro a; simp
  | cons x l ih =>
    intro a
    rcases ih (max a x) with h | h
    · simp only [List.foldl_cons, h, List.mem_cons]; omega
    · exact .inr (List.mem_cons_of_mem _ h)
theorem lows_mem (zs : List Int) (h : I64s zs) (hne : zs ≠ []) : lows zs ∈ zs := by
  rcases foldl_min_mem zs 9223372036854775807 with h1 | h1
  · obtain ⟨x, hx⟩ := List.exists_mem_of_ne_nil zs hne
    have h2 := (foldl_min_le zs 9223372036854775807).2 x hx
    have h3 := h x hx
    have : x = zs.foldl min 9223372036854775807 := by omega
    show zs.foldl min _ ∈ zs
    rw [← this]; exact hx
  · exact h1
theorem highs_mem (zs : List Int) (h : I64s zs) (hne : zs ≠ []) : highs zs ∈ zs := by
  rcases foldl_max_mem zs (-9223372036854775808) with h1 | h1
  · obtain ⟨x, hx⟩ := List.exists_mem_of_ne_nil zs hne
    have h2 := (foldl_max_le zs (-9223372036854775808)).2 x hx
    have h3 := h x hx
    have : x = zs.foldl max (-9223372036854775808) := by omega
    show zs.foldl max _ ∈ zs
    rw [← this]; exact hx
  · exact h1
theorem lows_le (zs : List Int) (k : Nat) (h : k < zs.length) : lows zs ≤ nth zs k := (foldl_min_le zs _).2 _ (nth_mem h)
theorem highs_le (zs : List Int) (k : Nat) (h : k < zs.length) : nth zs k ≤ highs zs := (foldl_max_le zs _).2 _ (nth_mem h)
theorem foldl_min_min (m : List Int) : ∀ a b, m.foldl min (min a b) = min a (m.foldl min b) := by
  induction m with
  | nil => intro a b; rfl
  | cons x l ih => intro a b; simp only [List.foldl_cons]; rw [show min (min a b) x = min a (min b x) by omega, ih]
theorem foldl_max_max (m : List Int) : ∀ a b, m.foldl max (max a b) = max a (m.foldl max b) := by
  induction m with
  | nil => intro a b; rfl
  | cons x l ih => intro a b; simp only [List.foldl_cons]; rw [show max (max a b) x = max a (max b x) by omega, ih]
theorem lows_append (l m : List Int) : lows (l ++ m) = if lows m < lows l then lows m else lows l := by
  have h1 := (foldl_min_le l 9223372036854775807).1
  have h2 : m.foldl min (lows l) = min (lows l) (lows m) := by
    have := foldl_min_min m (lows l) 9223372036854775807
    rw [show min (lows l) 9223372036854775807 = lows l by simp only [lows]; omega] at this
    exact this
  rw [lows, List.foldl_append]
  show m.foldl min (lows l) = _
  rw [h2]; omega
theorem highs_append (l m : List Int) : highs (l ++ m) = if highs l < highs m then highs m else highs l := by
  have h1 := (foldl_max_le l (-9223372036854775808)).1
  have h2 : m.foldl max (highs l) = max (highs l) (highs m) := by
    have := foldl_max_max m (highs l) (-9223372036854775808)
    rw [show max (highs l) (-9223372036854775808) = highs l by simp only [highs]; omega] at this
    exact this
  rw [highs, List.foldl_append]
  show m.foldl max (highs l) = _
  rw [h2]; omega

theorem cnt_le {x v : Int} {a k : Nat} (h : a ≤ k) : (if x = v then a + 1 else a) ≤ k + 1 := by split <;> omega
theorem cnt_step {x v : Int} {p : List Int} {a : Nat} (h : v ∈ p → 0 < a) : v ∈ p ++ [x] → 0 < if x = v then a + 1 else a := by
  intro hm
  rcases List.mem_append.1 hm with hm | hm
  · have := h hm; split <;> omega
  · simp at hm; rw [if_pos hm.symm]; omega

set_option maxHeartbeats 1000000 in
theorem ends_walk (a0 a1 : Option Addr) (cap0 cap1 : Nat) (l m : List Int) (w : World) (r0 : Rd w .i64 a0 cap0 l) (r1 : Rd w .i64 a1 cap1 m) (b0 : I64s l) :
    Calls Try.prog 3 #[.slice a0 l.length cap0, .slice a1 m.length cap1] w fun e w' => e = .returned (.bool true) ∧ Kp [] w w' := by
  obtain ⟨nl, hnl⟩ : ∃ n, n = l.length := ⟨_, rfl⟩
  obtain ⟨nm, hnm⟩ : ∃ n, n = m.length := ⟨_, rfl⟩
  rw [← hnl, ← hnm]
  have HL := Lib.hid hnl
  have HM := Lib.hid hnm
  clear hnl hnm
  by_cases hbig : 300 < nl ∨ 300 < nm
  · by_cases h1 : 300 < nl
    · clear hbig
      go_enter Try.func3, Try.ntmps3
      go_wp2_with (go_at_call 13; refine (known13 _).mono ?_; rintro e w' ⟨rfl, kp⟩)
      go_ret
      exact ⟨rfl, kp⟩
    · have h2 : 300 < nm := by omega
      clear hbig
      go_enter Try.func3, Try.ntmps3
      go_wp2_with (go_at_call 13; refine (known13 _).mono ?_; rintro e w' ⟨rfl, kp⟩)
      go_ret
      exact ⟨rfl, kp⟩
  have h1 : ¬ 300 < nl := by omega
  have h2 : ¬ 300 < nm := by omega
  clear hbig
  go_enter Try.func3, Try.ntmps3
  go_wp2_with fail
  refine (of_col a0 cap0 l nl HL.out w r0 (by have := HL.out; omega)).mono ?_
  rintro e w1 ⟨c, rfl, hcs, hc1, kp1⟩
  go_wp2_with fail
  refine (of_col a1 cap1 m nm HM.out w1 (r1.keep0 kp1) (by have := HM.out; omega)).mono ?_
  rintro e w2 ⟨d, rfl, hds, hd2, kp2⟩
  have hc2 := hc1.keep kp2
  have kw2 : Kp [] w w2 := kp1.trans kp2 (by simp) (by simp)
  clear hc1 kp1 kp2
  have s0 := r0.keep0 kw2
  have s1 := r1.keep0 kw2
  have hsz := kw2.size
  go_wp2_with (first
    | (at_builtin; refine wpList_app rfl (.tmp 35) (.tmp 36) 22 22 rfl w.heap.size 2 .i64 8 Try.underlying22 infoI64 (some ⟨w2.heap.size, 0, none⟩) 0 0 [] rfl l _ nl HL.out rfl rfl (.inl ⟨rfl, rfl⟩) (by rw [HL.out]; exact src_rd (s0.alloc _) Try.underlying22) (by omega) (by omega) (by simp; omega) ?_; intro ad3 cap3 w3 ho3 kp3 hob3 hnn3)
    | (at_builtin; refine wpList_app rfl (.tmp 37) (.tmp 38) 22 22 rfl w.heap.size 2 .i64 8 Try.underlying22 infoI64 ad3 cap3 nl ([] ++ l) (by rw [HL.out]; simp) m _ nm HM.out rfl rfl ho3 (by rw [HM.out]; exact src_rd (((s1.alloc _).keep0 kp3)) Try.underlying22) (by omega) (by omega) (by have := kp3.size; simp at this; omega) ?_; intro ad4 cap4 w4 ho4 kp4 hob4 hnn4))
  have kw24 : Kp [] w2 w4 := (((Kp.refl [] w2).alloc _).trans kp3 (U := []) (by simp) (by simp [ob])).trans kp4 (by simp) (fun x hx => .inr ((hob3 x hx).elim (by simp [ob]) (fun h => by simp at h; omega)))
  have kw4 : Kp [] w w4 := kw2.trans kw24 (by simp) (by simp)
  have hc4 := hc2.keep kw24
  have hd4 := hd2.keep kw24
  refine (of_col ad4 cap4 ([] ++ l ++ m) (nl + nm) (by rw [HL.out, HM.out]; simp) w4 ho4.rd (by have := HL.out; have := HM.out; simp; omega)).mono ?_
  rintro e w5 ⟨f, rfl, hfs, hf5, kp5⟩
  rw [List.nil_append] at hf5
  have hc5 := hc4.keep kp5
  have hd5 := hd4.keep kp5
  have kw5 : Kp [] w w5 := kw4.trans kp5 (by simp) (by simp)
  clear hc4 hd4 kw4 kp5 ho4 hob4 hnn4 kp4 ho3 hob3 hnn3 kp3 s0 s1 hsz hc2 hd2 kw2
  have s0 := r0.keep0 kw5
  have HS := Lib.hid s0.2.2
  clear s0 r0 r1
  clear hcs hds hfs kw24
  go_wp2_with fail
  go_loop [67, 11, 12] (fun i lo hi => ∃ k a b : Nat, k ≤ nl ∧ i = .int .i64 k ∧ lo = .int .i64 a ∧ hi = .int .i64 b ∧ a ≤ k ∧ b ≤ k ∧ (lows l ∈ l.take k → 0 < a) ∧ (highs l ∈ l.take k → 0 < b)) (fun i _ _ => nl - (intOf i).toNat)
  case atStart => exact ⟨0, 0, 0, Nat.zero_le _, rfl, rfl, rfl, Nat.le_refl _, Nat.le_refl _, by simp, by simp⟩
  case round =>
    obtain ⟨k, a, b, hk, rfl, rfl, rfl, hak, hbk, hla, hhb⟩ := hrel
    have HA := Lib.hid hla
    have HB := Lib.hid hhb
    clear hla hhb
    by_cases hlt : k < nl
    · obtain ⟨b', off, rfl, hcell⟩ := HS.out k (by rw [← HL.out]; exact hlt)
      have t1 : ¬ nth l k < lows l := by have := lows_le l k (by rw [← HL.out]; exact hlt); omega
      have t2 : ¬ highs l < nth l k := by have := highs_le l k (by rw [← HL.out]; exact hlt); omega
      have htk := take_nth l k (by rw [← HL.out]; exact hlt)
      have HT := Lib.hid htk
      clear htk
      cases h3 : (nth l k == lows l) <;> cases h4 : (nth l k == highs l)
      all_goals
        go_wp2_with (first
          | (go_at_call 15; refine (least_any _ _ _ (by assumption)).mono ?_; rintro e w' ⟨rfl, rfl⟩)
          | (go_at_call 16; refine (greatest_any _ _ _ (by assumption)).mono ?_; rintro e w' ⟨rfl, rfl⟩))
        go_round
        case rel =>
          simp only [beq_iff_eq, beq_eq_false_iff_ne, ne_eq] at h3 h4
          exact ⟨k + 1, if nth l k = lows l then a + 1 else a, if nth l k = highs l then b + 1 else b, hlt, by go_num, by simp [h3], by simp [h4], cnt_le hak, cnt_le hbk, by rw [HT.out]; exact cnt_step HA.out, by rw [HT.out]; exact cnt_step HB.out⟩
        case measure => simp [intOf]; omega
    · obtain rfl : k = nl := by omega
      have e1 : l.take k = l := by rw [HL.out, List.take_length]
      rw [e1] at HA HB
      by_cases h0 : k = 0
      · subst h0
        go_wp2_with (first
          | (go_at_call 15; refine (least_any _ _ _ (by assumption)).mono ?_; (try rw [lows_append]); rintro e w' ⟨rfl, rfl⟩)
          | (go_at_call 16; refine (greatest_any _ _ _ (by assumption)).mono ?_; (try rw [highs_append]); rintro e w' ⟨rfl, rfl⟩)
          | (go_at_call 13; refine (known13 _).mono ?_; rintro e w' ⟨rfl, kp⟩))
        all_goals (go_ret; exact ⟨rfl, kw5.trans kp (by simp) (by simp)⟩)
      · have hne : l ≠ [] := by intro h; apply h0; rw [HL.out, h]; rfl
        have ha := HA.out (lows_mem l b0 hne)
        have hb := HB.out (highs_mem l b0 hne)
        have h0' : ((k : Int) == 0) = false := by simp; exact h0
        clear HA HB hne h0
        go_wp2_with (first
          | (go_at_call 15; refine (least_any _ _ _ (by assumption)).mono ?_; (try rw [lows_append]); rintro e w' ⟨rfl, rfl⟩)
          | (go_at_call 16; refine (greatest_any _ _ _ (by assumption)).mono ?_; (try rw [highs_append]); rintro e w' ⟨rfl, rfl⟩)
          | (go_at_call 13; refine (known13 _).mono ?_; rintro e w' ⟨rfl, kp⟩))
        all_goals (go_ret; exact ⟨rfl, kw5.trans kp (by simp) (by simp)⟩)
end Go.Proofs.Ytanodmjolphpfaa
