/-
  Parts of the walks and their plain laws (R1 R2). No condition.
-/
import Derived.Lib.TrailingZeros
import Derived.Test.YtimemehaccgmmaaGreatDoorM08
import Derived.Test.YtimemehaccgmmaaGreatDoorM09
namespace Go.Proofs.YtimemehaccgmmaaGreatDoor
/-- The numbers below n that are so. -/
def fl (g : Nat → Bool) : Nat → List Nat
  | 0 => []
  | n + 1 => bif g n then fl g n ++ [n] else fl g n
set_option linter.unusedVariables false
section
variable {g h : Nat → Bool} {n N m x y : Nat}
theorem fl_t (e : g n = true) : fl g (n + 1) = fl g n ++ [n] := by simp [fl, e]
theorem fl_f (e : g n = false) : fl g (n + 1) = fl g n := by simp [fl, e]
theorem mem_fl : x ∈ fl g n ↔ x < n ∧ g x = true := by
  induction n with
  | zero => simp [fl]
  | succ n ih =>
    cases e : g n with
    | true =>
      rw [fl_t e, List.mem_append, ih, List.mem_singleton]
      constructor
      · rintro (⟨h1, h2⟩ | rfl)
        · exact ⟨by omega, h2⟩
        · exact ⟨by omega, e⟩
      · rintro ⟨h1, h2⟩
        by_cases hx : x = n
        · exact .inr hx
        · exact .inl ⟨by omega, h2⟩
    | false =>
      rw [fl_f e, ih]
      constructor
      · rintro ⟨h1, h2⟩; exact ⟨by omega, h2⟩
      · rintro ⟨h1, h2⟩
        refine ⟨?_, h2⟩
        by_cases hx : x = n
        · subst hx; rw [e] at h2; cases h2
        · omega
theorem fl_same (hnm : n ≤ m) (hf : ∀ y, n ≤ y → y < m → g y = false) : fl g m = fl g n := by
  induction m with
  | zero => obtain rfl : n = 0 := by omega
            rfl
  | succ m ih =>
    by_cases e : n = m + 1
    · subst e; rfl
    · rw [fl_f (hf m (by omega) (by omega)), ih (by omega) fun y h1 h2 => hf y h1 (by omega)]
theorem fl_congr (hf : ∀ y, y < n → g y = h y) : fl g n = fl h n := by
  induction n with
  | zero => rfl
  | succ n ih => simp only [fl, hf n (by omega), ih fun y hy => hf y (by omega)]
theorem fl_pre (hN : n ≤ N) : ∃ l, fl g N = fl g n ++ l := by
  induction N with
  | zero => obtain rfl : n = 0 := by omega
            exact ⟨[], by simp⟩
  | succ N ih =>
    by_cases e : n = N + 1
    · subst e; exact ⟨[], by simp⟩
    · obtain ⟨l, hl⟩ := ih (by omega)
      cases e2 : g N with
      | true => exact ⟨l ++ [N], by rw [fl_t e2, hl, List.append_assoc]⟩
      | false => exact ⟨l, by rw [fl_f e2, hl]⟩
theorem fl_take (hN : n ≤ N) : (fl g N).take (fl g n).length = fl g n := by
  obtain ⟨l, hl⟩ := fl_pre (g := g) hN
  rw [hl]; simp
theorem fl_lenle (hN : n ≤ N) : (fl g n).length ≤ (fl g N).length := by
  obtain ⟨l, hl⟩ := fl_pre (g := g) hN
  rw [hl]; simp
theorem fl_len : (fl g n).length ≤ n := by
  induction n with
  | zero => simp [fl]
  | succ n ih => simp only [fl]; cases g n <;> simp <;> omega
/-- The next one. -/
theorem fl_next (hN : n ≤ N) (hi : (fl g n).length < (fl g N).length) : n ≤ (fl g N)[(fl g n).length] ∧ (fl g N)[(fl g n).length] < N ∧ g (fl g N)[(fl g n).length] = true ∧ ∀ y, n ≤ y → y < (fl g N)[(fl g n).length] → g y = false := by
  induction N with
  | zero => obtain rfl : n = 0 := by omega
            simp at hi
  | succ N ih =>
    by_cases e : n = N + 1
    · subst e; simp at hi
    · cases e2 : g N with
      | false =>
        have e3 := fl_f e2
        simp only [e3] at hi ⊢
        obtain ⟨h1, h2, h3⟩ := ih (by omega) hi
        exact ⟨h1, by omega, h3⟩
      | true =>
        have e3 := fl_t e2
        simp only [e3] at hi ⊢
        by_cases hl : (fl g n).length < (fl g N).length
        · rw [List.getElem_append_left hl]
          obtain ⟨h1, h2, h3⟩ := ih (by omega) hl
          exact ⟨h1, by omega, h3⟩
        · have hle := fl_lenle (g := g) (show n ≤ N by omega)
          have hz : (fl g n).length = (fl g N).length := by omega
          rw [List.getElem_append_right (by omega)]
          simp only [hz, Nat.sub_self, List.getElem_singleton]
          refine ⟨by omega, by omega, e2, fun y h1 h2 => ?_⟩
          cases e4 : g y with
          | false => rfl
          | true =>
            have := fl_lenle (g := g) (show y + 1 ≤ N by omega)
            rw [fl_t e4] at this
            have h5 := fl_lenle (g := g) h1
            simp at this; omega
theorem fl_end (hN : n ≤ N) (hi : ¬ (fl g n).length < (fl g N).length) : ∀ y, n ≤ y → y < N → g y = false := by
  intro y h1 h2
  cases e4 : g y with
  | false => rfl
  | true =>
    have := fl_lenle (g := g) (show y + 1 ≤ N by omega)
    rw [fl_t e4] at this
    have h5 := fl_lenle (g := g) h1
    simp at this; omega
theorem fl_step (hN : n ≤ N) (hi : (fl g n).length < (fl g N).length) : fl g ((fl g N)[(fl g n).length] + 1) = fl g n ++ [(fl g N)[(fl g n).length]] := by
  obtain ⟨h1, h2, h3, h4⟩ := fl_next hN hi
  rw [fl_t h3, fl_same h1 h4]
/-- A rising list is what lies in it. -/
theorem fl_of {l : List Nat} (hp : l.Pairwise (· < ·)) (hl : ∀ x ∈ l, x < n) : fl (fun x => l.contains x) n = l := by
  have key : ∀ (n : Nat) (l : List Nat), l.Pairwise (· < ·) → (∀ x ∈ l, x < n) → fl (fun x => l.contains x) n = l := by
    intro n
    induction n with
    | zero => intro l hp hl; cases l with
      | nil => rfl
      | cons a l => exact absurd (hl a (by simp)) (by omega)
    | succ n ih =>
      intro l hp hl
      by_cases hm : n ∈ l
      · rw [fl_t (by simpa using hm)]
        obtain ⟨a, b, rfl⟩ := List.append_of_mem hm
        have hb : b = [] := by
          cases b with
          | nil => rfl
          | cons y b =>
            have h1 := (List.pairwise_append.1 hp).2.1
            have h2 := (List.pairwise_cons.1 h1).1 y (by simp)
            have := hl y (by simp); omega
        subst hb
        have hp2 := (List.pairwise_append.1 hp).1
        have hlt : ∀ x ∈ a, x < n := fun x hx => (List.pairwise_append.1 hp).2.2 x hx n (by simp)
        have := ih a hp2 hlt
        rw [fl_congr (h := fun x => a.contains x), this]
        intro y hy
        simp only [List.contains_append, List.contains_cons, List.contains_nil, Bool.or_false]
        have : (y == n) = false := by simp; omega
        rw [this, Bool.or_false]
      · rw [fl_f (by simpa using hm)]
        exact ih l hp fun x hx => by have := hl x hx; have : x ≠ n := fun e => hm (e ▸ hx); omega
  exact key n l hp hl
theorem fl_pw : (fl g n).Pairwise (· < ·) := by
  induction n with
  | zero => exact .nil
  | succ n ih =>
    simp only [fl]
    cases g n with
    | false => exact ih
    | true => exact List.pairwise_append.2 ⟨ih, List.pairwise_singleton _ _, fun a ha b hb => by rw [List.mem_singleton] at hb; subst hb; exact (mem_fl.1 ha).1⟩
end

/-- As bits. -/
def bm (p : Nat → Bool) : Nat → Nat
  | 0 => 0
  | n + 1 => bm p n + (bif p n then 2 ^ n else 0)
section
variable {p q : Nat → Bool} {n m i : Nat}
theorem bm_lt (p : Nat → Bool) : ∀ n, bm p n < 2 ^ n
  | 0 => by simp [bm]
  | n + 1 => by
    have := bm_lt p n
    rw [Nat.pow_succ]; simp only [bm]; cases p n <;> simp <;> omega
theorem bm_bit (p : Nat → Bool) : ∀ n i, (bm p n).testBit i = (decide (i < n) && p i)
  | 0, i => by simp [bm]
  | n + 1, i => by
    have hlt := bm_lt p n
    have ih := bm_bit p n i
    simp only [bm]
    cases e : p n with
    | false =>
      simp only [cond_false, Nat.add_zero, ih]
      by_cases h : i = n
      · subst h; simp [e]
      · by_cases h2 : i < n
        · simp [h2, Nat.lt_succ_of_lt h2]
        · simp [h2, show ¬ i < n + 1 by omega]
    | true =>
      simp only [cond_true]
      have := Nat.two_pow_add_eq_or_of_lt hlt 1
      rw [Nat.mul_one] at this
      rw [Nat.add_comm, this, Nat.testBit_or, ih, Nat.testBit_two_pow]
      by_cases h : i = n
      · subst h; simp [e]
      · by_cases h2 : i < n
        · simp [h2, Nat.lt_succ_of_lt h2, show ¬ n = i by omega]
        · simp [h2, show ¬ i < n + 1 by omega, show ¬ n = i by omega]
theorem bm_congr (h : ∀ i, i < n → p i = q i) : bm p n = bm q n := by
  induction n with
  | zero => rfl
  | succ n ih => simp only [bm, h n (by omega), ih fun i hi => h i (by omega)]
theorem bm_ext {a : Nat} (h : ∀ i, a.testBit i = (decide (i < n) && p i)) : a = bm p n := Nat.eq_of_testBit_eq fun i => by rw [h, bm_bit]
theorem bm_or : bm p n ||| bm q n = bm (fun i => p i || q i) n := bm_ext fun i => by simp [bm_bit, Bool.and_or_distrib_left]
theorem bm_split (p : Nat → Bool) (a : Nat) : ∀ n, bm p (a + n) = bm p a + 2 ^ a * bm (fun i => p (a + i)) n
  | 0 => by simp [bm]
  | n + 1 => by
    rw [← Nat.add_assoc]
    simp only [bm]
    rw [bm_split p a n, Nat.mul_add, Nat.add_assoc]
    cases p (a + n) <;> simp [Nat.pow_add]
theorem fl_split (p : Nat → Bool) (a : Nat) : ∀ n, (fl p (a + n)).length = (fl p a).length + (fl (fun i => p (a + i)) n).length
  | 0 => by simp [fl]
  | n + 1 => by
    rw [← Nat.add_assoc]
    simp only [fl]
    have := fl_split p a n
    cases p (a + n) <;> simp <;> omega
theorem bm_zero (h : ∀ i, i < n → p i = false) : bm p n = 0 := by
  induction n with
  | zero => rfl
  | succ n ih => simp [bm, h n (by omega), ih fun i hi => h i (by omega)]
end
theorem and_split (d q c m : Nat) (hd : d < 256) (hc : c < 256) : (d + 256 * q) &&& (c + 256 * m) = (d &&& c) + 256 * (q &&& m) := by
  have e : ∀ d q : Nat, d < 256 → d + 256 * q = 2 ^ 8 * q ||| d := fun d q h => by rw [← Nat.two_pow_add_eq_or_of_lt (i := 8) h q]; omega
  have hand : d &&& c < 256 := Nat.lt_of_le_of_lt Nat.and_le_left hd
  rw [e d q hd, e c m hc, e _ _ hand]
  apply Nat.eq_of_testBit_eq
  intro i
  have hb : ∀ d, d < 256 → 8 ≤ i → d.testBit i = false := fun d h h8 => Nat.testBit_lt_two_pow (Nat.lt_of_lt_of_le h (Nat.pow_le_pow_right (n := 2) (by omega) h8))
  simp only [Nat.testBit_and, Nat.testBit_or, Nat.mul_comm (2 ^ 8), Nat.testBit_mul_two_pow]
  by_cases h8 : 8 ≤ i
  · simp [h8, hb d hd h8, hb c hc h8]
  · simp [h8]
/-- Eight bytes. -/
def hor (b0 b1 b2 b3 b4 b5 b6 b7 : Nat) : Nat := b0 + 256 * (b1 + 256 * (b2 + 256 * (b3 + 256 * (b4 + 256 * (b5 + 256 * (b6 + 256 * (b7 + 256 * 0)))))))
theorem hor_and {b0 b1 b2 b3 b4 b5 b6 b7 : Nat} (c : Nat) (hc : c < 256) (h0 : b0 < 256) (h1 : b1 < 256) (h2 : b2 < 256) (h3 : b3 < 256) (h4 : b4 < 256) (h5 : b5 < 256) (h6 : b6 < 256) (h7 : b7 < 256) :
    hor b0 b1 b2 b3 b4 b5 b6 b7 &&& hor c c c c c c c c = hor (b0 &&& c) (b1 &&& c) (b2 &&& c) (b3 &&& c) (b4 &&& c) (b5 &&& c) (b6 &&& c) (b7 &&& c) := by
  unfold hor
  rw [and_split _ _ _ _ h0 hc, and_split _ _ _ _ h1 hc, and_split _ _ _ _ h2 hc, and_split _ _ _ _ h3 hc, and_split _ _ _ _ h4 hc, and_split _ _ _ _ h5 hc, and_split _ _ _ _ h6 hc, and_split _ _ _ _ h7 hc]
  simp
theorem hor_2 (b0 b1 b2 b3 b4 b5 b6 b7 : Nat) : hor (2 * b0) (2 * b1) (2 * b2) (2 * b3) (2 * b4) (2 * b5) (2 * b6) (2 * b7) / 2 = hor b0 b1 b2 b3 b4 b5 b6 b7 := by
  rw [show hor (2 * b0) (2 * b1) (2 * b2) (2 * b3) (2 * b4) (2 * b5) (2 * b6) (2 * b7) = 2 * hor b0 b1 b2 b3 b4 b5 b6 b7 by unfold hor; omega, Nat.mul_div_cancel_left _ (by omega)]
theorem hor_4 (b0 b1 b2 b3 b4 b5 b6 b7 : Nat) : hor (4 * b0) (4 * b1) (4 * b2) (4 * b3) (4 * b4) (4 * b5) (4 * b6) (4 * b7) / 4 = hor b0 b1 b2 b3 b4 b5 b6 b7 := by
  rw [show hor (4 * b0) (4 * b1) (4 * b2) (4 * b3) (4 * b4) (4 * b5) (4 * b6) (4 * b7) = 4 * hor b0 b1 b2 b3 b4 b5 b6 b7 by unfold hor; omega, Nat.mul_div_cancel_left _ (by omega)]
theorem hor_add (b0 b1 b2 b3 b4 b5 b6 b7 c0 c1 c2 c3 c4 c5 c6 c7 : Nat) : hor b0 b1 b2 b3 b4 b5 b6 b7 + hor c0 c1 c2 c3 c4 c5 c6 c7 = hor (b0 + c0) (b1 + c1) (b2 + c2) (b3 + c3) (b4 + c4) (b5 + c5) (b6 + c6) (b7 + c7) := by unfold hor; omega
theorem dv16 (u v K : Nat) (h : v < 16) : (v + 16 * u + 256 * K) / 16 = u + 16 * K := by omega
theorem dv8 (a K : Nat) (h : a < 256) : (a + 256 * K) / 256 = K := by omega
theorem dv16' (a b K : Nat) (h : a < 256) (h2 : b < 256) : (a + 256 * (b + 256 * K)) / 65536 = K := by omega
theorem dv32 (a b c d K : Nat) (h : a < 256) (h2 : b < 256) (h3 : c < 256) (h4 : d < 256) : (a + 256 * (b + 256 * (c + 256 * (d + 256 * K)))) / 4294967296 = K := by omega
theorem hor_16 (u0 u1 u2 u3 u4 u5 u6 u7 v0 v1 v2 v3 v4 v5 v6 v7 : Nat) (h : v0 < 16) : hor (v0 + 16 * u0) (v1 + 16 * u1) (v2 + 16 * u2) (v3 + 16 * u3) (v4 + 16 * u4) (v5 + 16 * u5) (v6 + 16 * u6) (v7 + 16 * u7) / 16 = hor (u0 + 16 * v1) (u1 + 16 * v2) (u2 + 16 * v3) (u3 + 16 * v4) (u4 + 16 * v5) (u5 + 16 * v6) (u6 + 16 * v7) u7 := by
  unfold hor
  rw [dv16 _ _ _ h]; omega
theorem hor_lt {b0 b1 b2 b3 b4 b5 b6 b7 : Nat} (h0 : b0 < 256) (h1 : b1 < 256) (h2 : b2 < 256) (h3 : b3 < 256) (h4 : b4 < 256) (h5 : b5 < 256) (h6 : b6 < 256) (h7 : b7 < 256) : hor b0 b1 b2 b3 b4 b5 b6 b7 < 18446744073709551616 := by
  have k : ∀ a K M : Nat, a < 256 → K < M → a + 256 * K < 256 * M := by omega
  exact k _ _ 72057594037927936 h0 (k _ _ 281474976710656 h1 (k _ _ 1099511627776 h2 (k _ _ 4294967296 h3 (k _ _ 16777216 h4 (k _ _ 65536 h5 (k _ _ 256 h6 (k _ _ 1 h7 (by omega))))))))
/-- How many bits are set, as math/bits counts them. -/
def oc1 (x : Nat) : Nat := (x / 2 &&& 6148914691236517205) + (x &&& 6148914691236517205)
def oc2 (x : Nat) : Nat := (x / 4 &&& 3689348814741910323) + (x &&& 3689348814741910323)
def oc3 (x : Nat) : Nat := (x / 16 + x) &&& 1085102592571150095
def s1 (b : Nat) : Nat := (b / 2 &&& 85) + (b &&& 85)
def s2 (b : Nat) : Nat := (b / 4 &&& 51) + (b &&& 51)
def s3 (b : Nat) : Nat := (b + b / 16) % 16
theorem shr_and (k a b : Nat) : a / 2 ^ k &&& b = (a &&& b * 2 ^ k) / 2 ^ k := by
  apply Nat.eq_of_testBit_eq
  intro i
  simp [← Nat.shiftRight_eq_div_pow, Nat.testBit_shiftRight, Nat.testBit_mul_two_pow]
theorem byte_and : ∀ b : Fin 256, (b.val &&& 170 = 2 * (b.val / 2 &&& 85)) ∧ (b.val &&& 204 = 4 * (b.val / 4 &&& 51)) ∧ (b.val &&& 15 = b.val % 16) ∧ s1 b.val < 256 ∧ s2 (s1 b.val) ≤ 68 ∧ s2 (s1 b.val) % 16 ≤ 4 ∧ s3 (s2 (s1 b.val)) ≤ 8 := by decide +kernel
theorem byte_s2 : ∀ b : Fin 256, s2 b.val < 256 ∧ (b.val / 4 &&& 51) < 64 ∧ (b.val / 2 &&& 85) < 128 := by decide +kernel
theorem oc1_hor {b0 b1 b2 b3 b4 b5 b6 b7 : Nat} (h0 : b0 < 256) (h1 : b1 < 256) (h2 : b2 < 256) (h3 : b3 < 256) (h4 : b4 < 256) (h5 : b5 < 256) (h6 : b6 < 256) (h7 : b7 < 256) :
    oc1 (hor b0 b1 b2 b3 b4 b5 b6 b7) = hor (s1 b0) (s1 b1) (s1 b2) (s1 b3) (s1 b4) (s1 b5) (s1 b6) (s1 b7) := by
  unfold oc1
  have e := shr_and 1 (hor b0 b1 b2 b3 b4 b5 b6 b7) 6148914691236517205
  rw [show (2 : Nat) ^ 1 = 2 from rfl] at e
  rw [e, show (6148914691236517205 * 2 : Nat) = hor 170 170 170 170 170 170 170 170 from rfl, show (6148914691236517205 : Nat) = hor 85 85 85 85 85 85 85 85 from rfl, hor_and _ (by omega) h0 h1 h2 h3 h4 h5 h6 h7, hor_and _ (by omega) h0 h1 h2 h3 h4 h5 h6 h7,
    (byte_and ⟨b0, h0⟩).1, (byte_and ⟨b1, h1⟩).1, (byte_and ⟨b2, h2⟩).1, (byte_and ⟨b3, h3⟩).1, (byte_and ⟨b4, h4⟩).1, (byte_and ⟨b5, h5⟩).1, (byte_and ⟨b6, h6⟩).1, (byte_and ⟨b7, h7⟩).1, hor_2, hor_add]
  rfl
theorem oc2_hor {b0 b1 b2 b3 b4 b5 b6 b7 : Nat} (h0 : b0 < 256) (h1 : b1 < 256) (h2 : b2 < 256) (h3 : b3 < 256) (h4 : b4 < 256) (h5 : b5 < 256) (h6 : b6 < 256) (h7 : b7 < 256) :
    oc2 (hor b0 b1 b2 b3 b4 b5 b6 b7) = hor (s2 b0) (s2 b1) (s2 b2) (s2 b3) (s2 b4) (s2 b5) (s2 b6) (s2 b7) := by
  unfold oc2
  have e := shr_and 2 (hor b0 b1 b2 b3 b4 b5 b6 b7) 3689348814741910323
  rw [show (2 : Nat) ^ 2 = 4 from rfl] at e
  rw [e, show (3689348814741910323 * 4 : Nat) = hor 204 204 204 204 204 204 204 204 from rfl, show (3689348814741910323 : Nat) = hor 51 51 51 51 51 51 51 51 from rfl, hor_and _ (by omega) h0 h1 h2 h3 h4 h5 h6 h7, hor_and _ (by omega) h0 h1 h2 h3 h4 h5 h6 h7,
    (byte_and ⟨b0, h0⟩).2.1, (byte_and ⟨b1, h1⟩).2.1, (byte_and ⟨b2, h2⟩).2.1, (byte_and ⟨b3, h3⟩).2.1, (byte_and ⟨b4, h4⟩).2.1, (byte_and ⟨b5, h5⟩).2.1, (byte_and ⟨b6, h6⟩).2.1, (byte_and ⟨b7, h7⟩).2.1, hor_4, hor_add]
  rfl
theorem oc3_hor {b0 b1 b2 b3 b4 b5 b6 b7 : Nat} (h0 : b0 ≤ 68 ∧ b0 % 16 ≤ 4) (h1 : b1 ≤ 68 ∧ b1 % 16 ≤ 4) (h2 : b2 ≤ 68 ∧ b2 % 16 ≤ 4) (h3 : b3 ≤ 68 ∧ b3 % 16 ≤ 4) (h4 : b4 ≤ 68 ∧ b4 % 16 ≤ 4) (h5 : b5 ≤ 68 ∧ b5 % 16 ≤ 4) (h6 : b6 ≤ 68 ∧ b6 % 16 ≤ 4) (h7 : b7 ≤ 68 ∧ b7 % 16 ≤ 4) :
    oc3 (hor b0 b1 b2 b3 b4 b5 b6 b7) = hor (s3 b0) (s3 b1) (s3 b2) (s3 b3) (s3 b4) (s3 b5) (s3 b6) (s3 b7) := by
  unfold oc3
  have e : hor b0 b1 b2 b3 b4 b5 b6 b7 / 16 + hor b0 b1 b2 b3 b4 b5 b6 b7 = hor (b0 + b0 / 16 + 16 * (b1 % 16)) (b1 + b1 / 16 + 16 * (b2 % 16)) (b2 + b2 / 16 + 16 * (b3 % 16)) (b3 + b3 / 16 + 16 * (b4 % 16)) (b4 + b4 / 16 + 16 * (b5 % 16)) (b5 + b5 / 16 + 16 * (b6 % 16)) (b6 + b6 / 16 + 16 * (b7 % 16)) (b7 + b7 / 16) := by
    have := hor_16 (b0 / 16) (b1 / 16) (b2 / 16) (b3 / 16) (b4 / 16) (b5 / 16) (b6 / 16) (b7 / 16) (b0 % 16) (b1 % 16) (b2 % 16) (b3 % 16) (b4 % 16) (b5 % 16) (b6 % 16) (b7 % 16) (by omega)
    simp only [Nat.mod_add_div] at this
    rw [this, hor_add]
    congr 1 <;> omega
  have k : ∀ a, a < 256 → a &&& 15 = a % 16 := fun a ha => (byte_and ⟨a, ha⟩).2.2.1
  rw [e, show (1085102592571150095 : Nat) = hor 15 15 15 15 15 15 15 15 from rfl, hor_and _ (by omega) (by omega) (by omega) (by omega) (by omega) (by omega) (by omega) (by omega) (by omega),
    k _ (by omega), k _ (by omega), k _ (by omega), k _ (by omega), k _ (by omega), k _ (by omega), k _ (by omega), k _ (by omega)]
  unfold s3
  congr 1 <;> omega
theorem bools8 {P : Bool → Bool → Bool → Bool → Bool → Bool → Bool → Bool → Prop} [∀ a b c d e f g h, Decidable (P a b c d e f g h)] (k : ∀ a b c d e f g h, P a b c d e f g h) : ∀ a b c d e f g h, P a b c d e f g h := k
theorem pop8 (p : Nat → Bool) : s3 (s2 (s1 (bm p 8))) = (fl p 8).length := by
  have key : ∀ a b c d e f g h : Bool, s3 (s2 (s1 ((((((((0 + (bif a then 2 ^ 0 else 0)) + (bif b then 2 ^ 1 else 0)) + (bif c then 2 ^ 2 else 0)) + (bif d then 2 ^ 3 else 0)) + (bif e then 2 ^ 4 else 0)) + (bif f then 2 ^ 5 else 0)) + (bif g then 2 ^ 6 else 0)) + (bif h then 2 ^ 7 else 0)))) = a.toNat + b.toNat + c.toNat + d.toNat + e.toNat + f.toNat + g.toNat + h.toNat := by decide +kernel
  have hl : ∀ n, (fl p (n + 1)).length = (fl p n).length + (p n).toNat := by intro n; simp only [fl]; cases p n <;> simp
  have := key (p 0) (p 1) (p 2) (p 3) (p 4) (p 5) (p 6) (p 7)
  simp only [bm]
  rw [this]
  simp only [hl, show (fl p 0).length = 0 from rfl]
  omega
theorem oc_sum {c0 c1 c2 c3 c4 c5 c6 c7 x4 x5 x6 : Nat} (h0 : c0 ≤ 8) (h1 : c1 ≤ 8) (h2 : c2 ≤ 8) (h3 : c3 ≤ 8) (h4 : c4 ≤ 8) (h5 : c5 ≤ 8) (h6 : c6 ≤ 8) (h7 : c7 ≤ 8)
    (e4 : x4 = (hor c0 c1 c2 c3 c4 c5 c6 c7 + hor c0 c1 c2 c3 c4 c5 c6 c7 / 256) % 18446744073709551616) (e5 : x5 = (x4 + x4 / 65536) % 18446744073709551616) (e6 : x6 = (x5 + x5 / 4294967296) % 18446744073709551616) : x6 % 128 = c0 + c1 + c2 + c3 + c4 + c5 + c6 + c7 := by
  have d4 : hor c0 c1 c2 c3 c4 c5 c6 c7 / 256 = hor c1 c2 c3 c4 c5 c6 c7 0 := by unfold hor; rw [dv8 _ _ (by omega)]
  rw [d4, hor_add, Nat.mod_eq_of_lt (hor_lt (by omega) (by omega) (by omega) (by omega) (by omega) (by omega) (by omega) (by omega))] at e4
  have d5 : x4 / 65536 = hor (c2 + c3) (c3 + c4) (c4 + c5) (c5 + c6) (c6 + c7) (c7 + 0) 0 0 := by rw [e4]; unfold hor; rw [dv16' _ _ _ (by omega) (by omega)]
  rw [d5, e4, hor_add, Nat.mod_eq_of_lt (hor_lt (by omega) (by omega) (by omega) (by omega) (by omega) (by omega) (by omega) (by omega))] at e5
  have d6 : x5 / 4294967296 = hor (c4 + c5 + (c6 + c7)) (c5 + c6 + (c7 + 0)) (c6 + c7 + 0) (c7 + 0 + 0) 0 0 0 0 := by rw [e5]; unfold hor; rw [dv32 _ _ _ _ _ (by omega) (by omega) (by omega) (by omega)]
  rw [d6, e5, hor_add, Nat.mod_eq_of_lt (hor_lt (by omega) (by omega) (by omega) (by omega) (by omega) (by omega) (by omega) (by omega))] at e6
  rw [e6]
  have : ∀ a K : Nat, (a + 256 * K) % 128 = a % 128 := by omega
  unfold hor
  rw [this]; omega
/-- The count is right. -/
def ocn (x : Nat) : Nat :=
  let x3 := oc3 (oc2 (oc1 x))
  let x4 := (x3 + x3 / 256) % 18446744073709551616
  let x5 := (x4 + x4 / 65536) % 18446744073709551616
  let x6 := (x5 + x5 / 4294967296) % 18446744073709551616
  x6 % 128
theorem ocn_bm (p : Nat → Bool) : ocn (bm p 64) = (fl p 64).length ∧ oc1 (bm p 64) < 18446744073709551616 ∧ oc2 (oc1 (bm p 64)) < 18446744073709551616 ∧ oc2 (oc1 (bm p 64)) / 16 + oc2 (oc1 (bm p 64)) < 18446744073709551616 ∧ oc3 (oc2 (oc1 (bm p 64))) < 18446744073709551616 := by
  have B : ∀ a, bm (fun i => p (a + i)) 8 < 256 := fun a => bm_lt _ 8
  have e : bm p 64 = hor (bm p 8) (bm (fun i => p (8 + i)) 8) (bm (fun i => p (8 + (8 + i))) 8) (bm (fun i => p (8 + (8 + (8 + i)))) 8) (bm (fun i => p (8 + (8 + (8 + (8 + i))))) 8) (bm (fun i => p (8 + (8 + (8 + (8 + (8 + i)))))) 8) (bm (fun i => p (8 + (8 + (8 + (8 + (8 + (8 + i))))))) 8) (bm (fun i => p (8 + (8 + (8 + (8 + (8 + (8 + (8 + i)))))))) 8) := by
    rw [show (64 : Nat) = 8 + (8 + (8 + (8 + (8 + (8 + (8 + (8 + 0))))))) from rfl]
    rw [bm_split p 8, bm_split _ 8, bm_split _ 8, bm_split _ 8, bm_split _ 8, bm_split _ 8, bm_split _ 8, bm_split _ 8]
    rfl
  have f : (fl p 64).length = (fl p 8).length + (fl (fun i => p (8 + i)) 8).length + (fl (fun i => p (8 + (8 + i))) 8).length + (fl (fun i => p (8 + (8 + (8 + i)))) 8).length + (fl (fun i => p (8 + (8 + (8 + (8 + i))))) 8).length + (fl (fun i => p (8 + (8 + (8 + (8 + (8 + i)))))) 8).length + (fl (fun i => p (8 + (8 + (8 + (8 + (8 + (8 + i))))))) 8).length + (fl (fun i => p (8 + (8 + (8 + (8 + (8 + (8 + (8 + i)))))))) 8).length := by
    rw [show (64 : Nat) = 8 + (8 + (8 + (8 + (8 + (8 + (8 + (8 + 0))))))) from rfl]
    rw [fl_split p 8, fl_split _ 8, fl_split _ 8, fl_split _ 8, fl_split _ 8, fl_split _ 8, fl_split _ 8, fl_split _ 8]
    simp only [fl, List.length_nil]; omega
  have g0 : ∀ q : Nat → Bool, bm q 8 < 256 := fun q => bm_lt q 8
  have g1 : ∀ q : Nat → Bool, s1 (bm q 8) < 256 := fun q => (byte_and ⟨_, g0 q⟩).2.2.2.1
  have g2 : ∀ q : Nat → Bool, s2 (s1 (bm q 8)) ≤ 68 ∧ s2 (s1 (bm q 8)) % 16 ≤ 4 := fun q => ⟨(byte_and ⟨_, g0 q⟩).2.2.2.2.1, (byte_and ⟨_, g0 q⟩).2.2.2.2.2.1⟩
  have g3 : ∀ q : Nat → Bool, s3 (s2 (s1 (bm q 8))) ≤ 8 := fun q => (byte_and ⟨_, g0 q⟩).2.2.2.2.2.2
  have k1 := oc1_hor (g0 p) (g0 fun i => p (8 + i)) (g0 fun i => p (8 + (8 + i))) (g0 fun i => p (8 + (8 + (8 + i)))) (g0 fun i => p (8 + (8 + (8 + (8 + i))))) (g0 fun i => p (8 + (8 + (8 + (8 + (8 + i)))))) (g0 fun i => p (8 + (8 + (8 + (8 + (8 + (8 + i))))))) (g0 fun i => p (8 + (8 + (8 + (8 + (8 + (8 + (8 + i))))))))
  have k2 := oc2_hor (g1 p) (g1 fun i => p (8 + i)) (g1 fun i => p (8 + (8 + i))) (g1 fun i => p (8 + (8 + (8 + i)))) (g1 fun i => p (8 + (8 + (8 + (8 + i))))) (g1 fun i => p (8 + (8 + (8 + (8 + (8 + i)))))) (g1 fun i => p (8 + (8 + (8 + (8 + (8 + (8 + i))))))) (g1 fun i => p (8 + (8 + (8 + (8 + (8 + (8 + (8 + i))))))))
  have k3 := oc3_hor (g2 p) (g2 fun i => p (8 + i)) (g2 fun i => p (8 + (8 + i))) (g2 fun i => p (8 + (8 + (8 + i)))) (g2 fun i => p (8 + (8 + (8 + (8 + i))))) (g2 fun i => p (8 + (8 + (8 + (8 + (8 + i)))))) (g2 fun i => p (8 + (8 + (8 + (8 + (8 + (8 + i))))))) (g2 fun i => p (8 + (8 + (8 + (8 + (8 + (8 + (8 + i))))))))
  rw [← e] at k1
  rw [← k1] at k2
  rw [← k2] at k3
  refine ⟨?_, ?_, ?_, ?_, ?_⟩
  · have := oc_sum (g3 p) (g3 fun i => p (8 + i)) (g3 fun i => p (8 + (8 + i))) (g3 fun i => p (8 + (8 + (8 + i)))) (g3 fun i => p (8 + (8 + (8 + (8 + i))))) (g3 fun i => p (8 + (8 + (8 + (8 + (8 + i)))))) (g3 fun i => p (8 + (8 + (8 + (8 + (8 + (8 + i))))))) (g3 fun i => p (8 + (8 + (8 + (8 + (8 + (8 + (8 + i)))))))) rfl rfl rfl
    rw [← k3] at this
    unfold ocn
    simp only [this, f, ← pop8]
  · rw [k1]; exact hor_lt (g1 _) (g1 _) (g1 _) (g1 _) (g1 _) (g1 _) (g1 _) (g1 _)
  · rw [k2]; exact hor_lt (by have := g2 p; omega) (by have := g2 fun i => p (8 + i); omega) (by have := g2 fun i => p (8 + (8 + i)); omega) (by have := g2 fun i => p (8 + (8 + (8 + i))); omega) (by have := g2 fun i => p (8 + (8 + (8 + (8 + i)))); omega) (by have := g2 fun i => p (8 + (8 + (8 + (8 + (8 + i))))); omega) (by have := g2 fun i => p (8 + (8 + (8 + (8 + (8 + (8 + i)))))); omega) (by have := g2 fun i => p (8 + (8 + (8 + (8 + (8 + (8 + (8 + i))))))); omega)
  · have hx : oc2 (oc1 (bm p 64)) ≤ 4919131752989213764 := by
      rw [k2]
      have a0 := g2 p; have a1 := g2 fun i => p (8 + i); have a2 := g2 fun i => p (8 + (8 + i)); have a3 := g2 fun i => p (8 + (8 + (8 + i))); have a4 := g2 fun i => p (8 + (8 + (8 + (8 + i)))); have a5 := g2 fun i => p (8 + (8 + (8 + (8 + (8 + i))))); have a6 := g2 fun i => p (8 + (8 + (8 + (8 + (8 + (8 + i)))))); have a7 := g2 fun i => p (8 + (8 + (8 + (8 + (8 + (8 + (8 + i)))))))
      have q : (4919131752989213764 : Nat) = hor 68 68 68 68 68 68 68 68 := rfl
      rw [q]; unfold hor; omega
    omega
  · rw [k3]; exact hor_lt (by have := g3 p; omega) (by have := g3 fun i => p (8 + i); omega) (by have := g3 fun i => p (8 + (8 + i)); omega) (by have := g3 fun i => p (8 + (8 + (8 + i))); omega) (by have := g3 fun i => p (8 + (8 + (8 + (8 + i)))); omega) (by have := g3 fun i => p (8 + (8 + (8 + (8 + (8 + i))))); omega) (by have := g3 fun i => p (8 + (8 + (8 + (8 + (8 + (8 + i)))))); omega) (by have := g3 fun i => p (8 + (8 + (8 + (8 + (8 + (8 + (8 + i))))))); omega)
/-- The lowest bit, and the rest. -/
theorem low_bit {p : Nat → Bool} {n N s : Nat} (h1 : n ≤ s) (h2 : s < N) (h3 : p s = true) (h4 : ∀ y, n ≤ y → y < s → p y = false) :
    bm (fun i => decide (n ≤ i) && p i) N = 2 ^ s * (2 * (bm (fun i => p (s + 1 + i)) (N - s - 1)) + 1) ∧ bm (fun i => decide (s + 1 ≤ i) && p i) N = 2 ^ s * (2 * (bm (fun i => p (s + 1 + i)) (N - s - 1))) := by
  obtain ⟨k, rfl⟩ : ∃ k, N = s + (1 + k) := ⟨N - s - 1, by omega⟩
  have e0 : bm (fun i => decide (n ≤ i) && p i) s = 0 := bm_zero fun i hi => by
    by_cases h : n ≤ i
    · simp [h4 i h hi]
    · simp [h]
  have e1 : bm (fun i => decide (s + 1 ≤ i) && p i) s = 0 := bm_zero fun i hi => by simp; omega
  have hk : s + (1 + k) - s - 1 = k := by omega
  rw [bm_split _ s, bm_split _ s, bm_split _ 1, bm_split _ 1, e0, e1, hk]
  have e2 : bm (fun i => decide (n ≤ s + (1 + i)) && p (s + (1 + i))) k = bm (fun i => p (s + 1 + i)) k := bm_congr fun i _ => by simp [Nat.add_assoc, show n ≤ s + (1 + i) by omega]
  have e3 : bm (fun i => decide (s + 1 ≤ s + (1 + i)) && p (s + (1 + i))) k = bm (fun i => p (s + 1 + i)) k := bm_congr fun i _ => by simp [Nat.add_assoc]
  simp only [e2, e3]
  simp only [bm, Nat.add_zero, h3, h1, decide_true, Bool.and_self, cond_true]
  constructor
  · rw [Nat.zero_add]; congr 1; omega
  · rw [Nat.zero_add, show decide (s + 1 ≤ s) = false by simp]; simp
theorem and_pred (s m : Nat) : (2 ^ s * (2 * m + 1)) &&& (2 ^ s * (2 * m + 1) - 1) = 2 ^ s * (2 * m) := by
  have hp : 0 < 2 ^ s := Nat.two_pow_pos s
  have e : 2 ^ s * (2 * m + 1) - 1 = 2 ^ s * (2 * m) ||| (2 ^ s - 1) := by
    rw [← Nat.two_pow_add_eq_or_of_lt (by omega)]; rw [Nat.mul_add]; omega
  rw [e]
  apply Nat.eq_of_testBit_eq
  intro i
  simp only [Nat.testBit_and, Nat.testBit_or, Nat.mul_comm (2 ^ s), Nat.testBit_mul_two_pow, Nat.testBit_two_pow_sub_one]
  by_cases h : s ≤ i
  · have h2 : ¬ i < s := by omega
    simp only [h, h2, decide_true, decide_false, Bool.true_and, Bool.or_false]
    by_cases h3 : i = s
    · subst h3; simp
    · obtain ⟨j, rfl⟩ : ∃ j, i = s + (j + 1) := ⟨i - s - 1, by omega⟩
      rw [show s + (j + 1) - s = j + 1 by omega, Nat.testBit_succ, Nat.testBit_succ]
      rw [show (2 * m + 1) / 2 = m by omega, show 2 * m / 2 = m by omega, Bool.and_self]
  · simp [h]
theorem ctz_low (s m : Nat) (h : 2 ^ s * (2 * m + 1) < 2 ^ 64) : Go.Lib.ctz 64 (2 ^ s * (2 * m + 1)) = s := by
  have hp : 0 < 2 ^ s := Nat.two_pow_pos s
  have h0 : 0 < 2 ^ s * (2 * m + 1) := Nat.mul_pos hp (by omega)
  unfold Go.Lib.ctz
  rw [if_neg (by omega)]
  obtain ⟨m', h1, h2⟩ := Go.Lib.ctzFrom_spec 64 _ h0 h
  generalize Go.Lib.ctzFrom 64 (2 ^ s * (2 * m + 1)) = c at *
  have key : ∀ a b x y : Nat, a < b → 2 ^ a * (2 * x + 1) = 2 ^ b * (2 * y + 1) → False := by
    intro a b x y hab he
    obtain ⟨d, rfl⟩ : ∃ d, b = a + (d + 1) := ⟨b - a - 1, by omega⟩
    rw [Nat.pow_add, Nat.mul_assoc] at he
    have := Nat.eq_of_mul_eq_mul_left (Nat.two_pow_pos a) he
    rw [Nat.pow_succ, Nat.mul_assoc, Nat.mul_left_comm] at this
    omega
  rcases Nat.lt_trichotomy c s with h3 | h3 | h3
  · exact (key _ _ _ _ h3 h1.symm).elim
  · exact h3
  · exact (key _ _ _ _ h3 h1).elim
section
variable {p q : Nat → Bool} {n m : Nat}
theorem bm_same (hnm : n ≤ m) (hf : ∀ y, n ≤ y → y < m → p y = false) : bm p m = bm p n := by
  induction m with
  | zero => obtain rfl : n = 0 := by omega
            rfl
  | succ m ih =>
    by_cases e : n = m + 1
    · subst e; rfl
    · simp only [bm]; rw [hf m (by omega) (by omega), ih (by omega) fun y h1 h2 => hf y h1 (by omega)]; rfl
theorem bm_t (e : p n = true) : bm p (n + 1) = bm p n + 2 ^ n := by simp [bm, e]
theorem bm_or_bit (h : bm p n ≤ 2 ^ n) (e : p n = true) : bm p n ||| 2 ^ n = bm p (n + 1) := by
  rw [bm_t e, Nat.or_comm, Nat.add_comm]
  have := Nat.two_pow_add_eq_or_of_lt (bm_lt p n) 1
  rw [Nat.mul_one] at this; exact this.symm
/-- Where a run begins. -/
def bg (p : Nat → Bool) (x : Nat) : Bool := p x && !(decide (0 < x) && p (x - 1))
theorem bm_bg (hp : ∀ i, 60 ≤ i → p i = false) (i : Nat) : ((bm p 64) * 2).testBit i = (decide (0 < i) && (decide (i < 64) && p (i - 1))) := by
  rw [show (2 : Nat) = 2 ^ 1 from rfl, Nat.testBit_mul_two_pow, bm_bit]
  cases i with
  | zero => rfl
  | succ i =>
    simp only [Nat.add_sub_cancel]
    by_cases h : i < 63
    · simp [show i < 64 by omega, show i + 1 < 64 by omega]
    · simp [hp i (by omega)]
theorem bm_lt60 (hp : ∀ i, 60 ≤ i → p i = false) : bm p 64 < 2 ^ 60 := by
  rw [bm_same (n := 60) (by omega) fun y h1 _ => hp y h1]; exact bm_lt p 60
theorem rng_bit (a c i : Nat) : (2 ^ a * (2 ^ c - 1)).testBit i = (decide (a ≤ i) && decide (i < a + c)) := by
  rw [Nat.mul_comm, Nat.testBit_mul_two_pow, Nat.testBit_two_pow_sub_one]
  by_cases h : a ≤ i
  · simp only [h, decide_true, Bool.true_and]; apply decide_eq_decide.2; omega
  · simp [h]
theorem bm_xor {a c : Nat} (hc : a + c ≤ 64) : bm p 64 ^^^ (2 ^ a * (2 ^ c - 1)) = bm (fun i => p i ^^ (decide (a ≤ i) && decide (i < a + c))) 64 := bm_ext fun i => by
  rw [Nat.testBit_xor, bm_bit, rng_bit]
  by_cases h : i < 64
  · simp [h]
  · simp [h, show ¬ i < a + c by omega]
end
end Go.Proofs.YtimemehaccgmmaaGreatDoor
namespace Go.Proofs.YtimemehaccgmmaaGreatDoor
open Go.RowKit
set_option maxRecDepth 100000
set_option linter.unusedVariables false
noncomputable section
section
variable {J : List (World → Prop)} {H : List RC} {p : Nat → Bool}
theorem aw {a : Nat} {z : Int} (c : Nat) (ha : a < 18446744073709551616) (hc : c < 18446744073709551616) (hz : z = (c : Nat)) : IntKind.u64.wrap ((BitVec.ofInt IntKind.u64.bits (a : Int) &&& BitVec.ofInt IntKind.u64.bits z).toNat) = ((a &&& c : Nat) : Int) := by
  subst hz; exact and_eq .u64 rfl _ _ ha hc
theorem dw {a : Nat} (k : Nat) (hk : k ≤ 64) : (a : Int) / 2 ^ min k IntKind.u64.bits = ((a / 2 ^ k : Nat) : Int) := by
  have : min k IntKind.u64.bits = k := Nat.min_eq_left hk
  rw [this]; norm_cast
theorem mw {a b : Nat} : ((a : Int) + (b : Int)) % 18446744073709551616 = (((a + b) % 18446744073709551616 : Nat) : Int) := by omega
theorem cOnes : Tr TP 288 [.int .u64 (bm p 64 : Nat)] (Ctx J H) (fun _ : Unit => .int .i64 (fl p 64).length) (fun _ => True) (fun _ => Ctx J H) := by
  obtain ⟨h1, h2, h3, h4, h5⟩ := ocn_bm p
  have h0 : bm p 64 < 18446744073709551616 := bm_lt p 64
  have hd : ∀ {x : Nat} k, x < 18446744073709551616 → x / k < 18446744073709551616 := fun k h => Nat.lt_of_le_of_lt (Nat.div_le_self _ k) h
  have e1 : (bm p 64 / 2 ^ 1 &&& 6148914691236517205) + (bm p 64 &&& 6148914691236517205) = oc1 (bm p 64) := rfl
  have e2 : ∀ x, (x / 2 ^ 2 &&& 3689348814741910323) + (x &&& 3689348814741910323) = oc2 x := fun _ => rfl
  have e3 : ∀ x, (x / 2 ^ 4 + x) &&& 1085102592571150095 = oc3 x := fun _ => rfl
  have e6 : ∀ x : Nat, x < 18446744073709551616 → IntKind.i64.wrap ((BitVec.ofInt IntKind.i64.bits (IntKind.i64.wrap (x : Int)) &&& BitVec.ofInt IntKind.i64.bits 127).toNat) = ((x % 128 : Nat) : Int) := by
    intro x hx
    have : (BitVec.ofInt IntKind.i64.bits (IntKind.i64.wrap (x : Int)) &&& BitVec.ofInt IntKind.i64.bits 127).toNat = x % 128 := by
      rw [BitVec.toNat_and]
      have a1 : (BitVec.ofInt IntKind.i64.bits (IntKind.i64.wrap (x : Int))).toNat = x := by
        rw [BitVec.toNat_ofInt]
        have : IntKind.i64.wrap (x : Int) = (x : Int) ∨ IntKind.i64.wrap (x : Int) = (x : Int) - 18446744073709551616 := by
          have := IntKind.wrap_i64 (x : Int); omega
        have hb : (2 : Int) ^ IntKind.i64.bits = 18446744073709551616 := rfl
        have hb2 : ((2 ^ IntKind.i64.bits : Nat) : Int) = 18446744073709551616 := rfl
        rw [hb2]; omega
      have a2 : (BitVec.ofInt IntKind.i64.bits 127).toNat = 2 ^ 7 - 1 := rfl
      rw [a1, a2, Nat.and_two_pow_sub_one_eq_mod]
    rw [this, IntWalk.i64_in _ (by omega)]
  refine en0 Tryz.func288 rfl rfl rfl (go ?_)
  rw [dw 1 (by omega), aw 6148914691236517205 (hd _ h0) (by omega), aw 6148914691236517205 h0 (by omega), mw, e1, Nat.mod_eq_of_lt h2,
    dw 2 (by omega), aw 3689348814741910323 (hd _ h2) (by omega), aw 3689348814741910323 h2 (by omega), mw, e2, Nat.mod_eq_of_lt h3,
    dw 4 (by omega), mw, Nat.mod_eq_of_lt h4, aw 1085102592571150095 h4 (by omega), e3, dw 8 (by omega), mw, dw 16 (by omega), mw, dw 32 (by omega), mw, e6 _ (by omega)]
  all_goals try rfl
  rw [← h1]
  exact rt () trivial rfl (fun _ h => h)
theorem getD_at {l : List Nat} {i s : Nat} (hi : i < l.length) (h : l.getD i 0 = s) : l[i] = s := by rw [← h, List.getD_eq_getElem?_getD, List.getElem?_eq_getElem hi]; rfl
/-- The library's table. -/
abbrev TabT : World → Prop := Rs (fN .u8) 1 (some ⟨1, 0, none⟩) 64 Go.Lib.deBruijn64tab
theorem cTz {x s : Nat} (hJ : Ent J TabT := by exact jA) (h0 : x ≠ 0) (hx : x < 2 ^ 64) (hs : Go.Lib.ctz 64 x = s) : Tr TP 289 [.int .u64 (x : Nat)] (Ctx J H) (fun _ : Unit => .int .i64 (s : Nat)) (fun _ => True) (fun _ => Ctx J H) := by
  refine en0 Tryz.func289 rfl rfl rfl (addJ hJ (go ?_))
  obtain ⟨g1, g2⟩ := Go.Lib.lowest_bit 64 x h0 hx
  rw [hs] at g1 g2
  obtain ⟨g3, g4⟩ := Go.Lib.deBruijn64_at s g2
  have e1 : (0 - (x : Int)) % 18446744073709551616 = ((2 ^ 64 - x : Nat) : Int) := by omega
  have e2 : ∀ y : Nat, (y : Int) * 285870213051353865 % 18446744073709551616 = ((y * 285870213051353865 % 18446744073709551616 : Nat) : Int) := fun y => by omega
  rw [e1, aw (2 ^ 64 - x) (by omega) (by omega) rfl, g1, e2, dw 58 (by omega)]
  rw [← show (2 : Nat) ^ 58 = 288230376151711744 from rfl] at g3 g4
  generalize 2 ^ s * 285870213051353865 % 18446744073709551616 / 2 ^ 58 = i at *
  have hi : i < Go.Lib.deBruijn64tab.length := g3
  refine hA rfl rfl rfl (oIxP rfl rfl rfl rfl g3) rfl ?_
  refine go ?_
  have e5 : Go.Lib.deBruijn64tab[i] = s := getD_at hi g4
  rw [e5, IntWalk.i64_in (s : Int) (by omega)]
  exact rt () trivial rfl (fun _ h => h.ent fun _ j => j.2)
end
end
end Go.Proofs.YtimemehaccgmmaaGreatDoor
