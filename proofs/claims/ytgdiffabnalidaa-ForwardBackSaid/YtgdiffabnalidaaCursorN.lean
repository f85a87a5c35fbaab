/-
  What the reader's number, U8, U16, U32, U64 and Bytes tell.
-/
import Derived.Test.YtgdiffabnalidaaCursor
namespace Go.Proofs.Ytgdiffabnalidaa
open Go.RowKit
set_option linter.unusedSimpArgs false
set_option linter.unusedVariables false
variable {L : Nat}

/-- The number whose bytes these are, the lowest first. -/
def leN : List Int → Nat
  | [] => 0
  | z :: l => z.toNat + 256 * leN l
theorem leN_append (l m : List Int) : leN (l ++ m) = leN l + 256 ^ l.length * leN m := by
  induction l with
  | nil => simp [leN]
  | cons z l ih => simp only [List.cons_append, leN, ih, List.length_cons, Nat.pow_succ]; rw [Nat.mul_add, Nat.add_assoc, ← Nat.mul_assoc, Nat.mul_comm 256 (256 ^ l.length)]
theorem leN_lt (l : List Int) (h : Bytes8 l) : leN l < 256 ^ l.length := by
  induction l with
  | nil => simp [leN]
  | cons z l ih =>
    have h1 := h z (by simp)
    have h2 := ih (fun x hx => h x (List.mem_cons_of_mem _ hx))
    simp only [leN, List.length_cons, Nat.pow_succ]
    omega
theorem Bytes8.sub {l : List Int} (h : Bytes8 l) (a b : Nat) : Bytes8 (sub l a b) := fun z hz => h z (List.mem_of_mem_drop (List.mem_of_mem_take hz))

theorem pow_8 (k : Nat) : 2 ^ (8 * k) = 256 ^ k := by rw [Nat.pow_mul]
theorem or_step (m x k : Nat) (hm : m < 256 ^ k) (hx : x ≤ 255) (hk : k < 8) : bits BinOp.or IntKind.u64 (m : Int) (IntKind.u64.wrap ((x : Int) * 2 ^ (8 * k))) = ((m + 256 ^ k * x : Nat) : Int) := by
  have hp : 256 ^ k * 256 ≤ 18446744073709551616 := by
    have : 256 ^ (k + 1) ≤ 256 ^ 8 := Nat.pow_le_pow_right (by omega) (by omega)
    rw [Nat.pow_succ] at this; exact Nat.le_trans this (by decide)
  have hp0 : 0 < 256 ^ k := Nat.pow_pos (by omega)
  have hxk : x * 256 ^ k ≤ 255 * 256 ^ k := Nat.mul_le_mul_right _ hx
  have e1 : (x : Int) * 2 ^ (8 * k) = ((x * 256 ^ k : Nat) : Int) := by rw [← pow_8]; simp
  rw [e1, IntWalk.u64_in _ (by omega), bits_or_u64_nat m (x * 256 ^ k) (by omega) (by omega)]
  congr 1
  have h2 := Nat.two_pow_add_eq_or_of_lt (i := 8 * k) (b := m) (by rw [pow_8]; exact hm) x
  rw [pow_8] at h2
  rw [Nat.or_comm, Nat.mul_comm x, ← h2, Nat.add_comm]

set_option maxHeartbeats 800000 in
theorem cnumber_yes (p : Nat) (bs : List Int) (a n : Nat) (w : World) (h : Rdr w L p bs a false) (hb : Bytes8 bs) (hn : a + n ≤ bs.length) (h8 : n ≤ 8) :
    Calls Try.prog 59 #[.pointer (some ⟨p, 0, none⟩), .int .i64 n] w fun e w' => e = .returned (.int .u64 (leN (sub bs a (a + n)))) ∧ Rdr w' L p bs (a + n) false ∧ Kp [p] w w' := by
  have H := Lib.hid h
  have HB := Lib.hid (hb.sub a (a + n))
  clear h hb
  go_enter Try.func59, Try.ntmps59
  go_wp2_with fail
  refine (csome_yes p bs a n _ H.out hn).mono ?_
  rintro e w1 ⟨ad, cap, rfl, hr, hp, kp⟩
  obtain ⟨l, hl⟩ : ∃ l, l = sub bs a (a + n) := ⟨_, rfl⟩
  rw [← hl] at hr HB
  have hlen : l.length = n := by rw [hl, sub_length _ _ _ hn]; omega
  have HL := Lib.hid hlen
  have HE := Lib.hid hl
  have HR := Lib.hid hr.2.2
  clear hl hlen hr hn
  go_wp2_with fail
  go_loop [4, 11] (fun v i => ∃ k : Nat, k ≤ n ∧ i = .int .i64 k ∧ v = .int .u64 ((leN (l.take k) : Nat) : Int)) (fun _ i => n - (intOf i).toNat)
  case atStart => exact ⟨0, Nat.zero_le _, rfl, rfl⟩
  case round =>
    obtain ⟨k, hk, rfl, rfl⟩ := hrel
    by_cases hlt : k < n
    · obtain ⟨b, off, rfl, hc⟩ := HR.out k (by rw [HL.out]; exact hlt)
      have hx := HB.out (nth l k) (by simp [nth, HL.out, hlt])
      obtain ⟨x, hxn⟩ : ∃ x : Nat, nth l k = (x : Int) := Int.eq_ofNat_of_zero_le hx.1
      rw [hxn] at hc hx
      obtain ⟨m, hm⟩ : ∃ m, m = leN (l.take k) := ⟨_, rfl⟩
      rw [← hm]
      have HM := Lib.hid hm
      have HX := Lib.hid hxn
      clear hm hxn
      go_wp2_with fail
      go_round
      case rel =>
        refine ⟨k + 1, hlt, by go_num, ?_⟩
        have hmlt : m < 256 ^ k := by
          have := leN_lt (l.take k) (fun z hz => HB.out z (List.mem_of_mem_take hz))
          rw [← HM.out, List.length_take, Nat.min_eq_left (by rw [HL.out]; omega)] at this; exact this
        rw [or_step m x k hmlt (by omega) (by omega), take_nth l k (by rw [HL.out]; exact hlt), leN_append, ← HM.out, HX.out, List.length_take, Nat.min_eq_left (by rw [HL.out]; omega)]
        simp [leN]
      case measure => simp [intOf]; omega
    · obtain rfl : k = n := by omega
      have e1 : l.take k = sub bs a (a + k) := by rw [← HE.out]; exact List.take_of_length_le (by rw [HL.out]; omega)
      rw [e1]
      go_wp2_with fail
      go_ret
      exact ⟨rfl, hp, kp⟩

set_option maxHeartbeats 800000 in
theorem cnumber_no (p : Nat) (bs : List Int) (a : Nat) (b : Bool) (n : Nat) (w : World) (h : Rdr w L p bs a b) (hn : ¬ rok bs a b n) :
    Calls Try.prog 59 #[.pointer (some ⟨p, 0, none⟩), .int .i64 n] w fun e w' => e = .returned (.int .u64 0) ∧ Rdr w' L p bs a true ∧ Kp [p] w w' := by
  have H := Lib.hid h
  have HN := Lib.hid hn
  clear h hn
  go_enter Try.func59, Try.ntmps59
  go_wp2_with fail
  refine (csome_no p bs a b n _ H.out HN.out).mono ?_
  rintro e w1 ⟨rfl, hp, kp⟩
  go_wp2_with fail
  refine wp_loop_rounds 1 ?_
  rw [rounds_succ]
  go_wp2_with fail
  go_ret
  exact ⟨rfl, hp, kp⟩

/-! The number of so many bytes: what is told, and how the reader stands then. -/
def rdN (bs : List Int) (a : Nat) (b : Bool) (n : Nat) : Nat := if b = false ∧ a + n ≤ bs.length then leN (sub bs a (a + n)) else 0
def rdA (bs : List Int) (a : Nat) (b : Bool) (n : Nat) : Nat := if b = false ∧ a + n ≤ bs.length then a + n else a
def rdB (bs : List Int) (a : Nat) (b : Bool) (n : Nat) : Bool := !decide (b = false ∧ a + n ≤ bs.length)

theorem cnumber_any (p : Nat) (bs : List Int) (a : Nat) (b : Bool) (n : Nat) (w : World) (h : Rdr w L p bs a b) (hb : Bytes8 bs) (h8 : n ≤ 8) :
    Calls Try.prog 59 #[.pointer (some ⟨p, 0, none⟩), .int .i64 n] w fun e w' => e = .returned (.int .u64 (rdN bs a b n)) ∧ Rdr w' L p bs (rdA bs a b n) (rdB bs a b n) ∧ Kp [p] w w' := by
  have hle : a ≤ bs.length := h.le.1
  by_cases hc : b = false ∧ a + n ≤ bs.length
  · have e1 : rdN bs a b n = leN (sub bs a (a + n)) := if_pos hc
    have e2 : rdA bs a b n = a + n := if_pos hc
    have e3 : rdB bs a b n = false := by simp only [rdB, decide_eq_true hc]; rfl
    rw [e1, e2, e3]
    obtain ⟨rfl, hc⟩ := hc
    exact cnumber_yes p bs a n w h hb hc h8
  · have e1 : rdN bs a b n = 0 := if_neg hc
    have e2 : rdA bs a b n = a := if_neg hc
    have e3 : rdB bs a b n = true := by simp only [rdB, decide_eq_false hc]; rfl
    rw [e1, e2, e3]
    exact cnumber_no p bs a b n w h (fun hr => hc ⟨hr.1, by have := hr.2.2; omega⟩)

theorem rdN_lt (bs : List Int) (a : Nat) (b : Bool) (n : Nat) (hb : Bytes8 bs) : rdN bs a b n < 256 ^ n := by
  unfold rdN
  split
  · rename_i h
    have := leN_lt (sub bs a (a + n)) (hb.sub _ _)
    rwa [sub_length _ _ _ h.2, Nat.add_sub_cancel_left] at this
  · exact Nat.pow_pos (by omega)
theorem cu32_any (p : Nat) (bs : List Int) (a : Nat) (b : Bool) (w : World) (h : Rdr w L p bs a b) (hb : Bytes8 bs) :
    Calls Try.prog 50 #[.pointer (some ⟨p, 0, none⟩)] w fun e w' => e = .returned (.int .u32 (rdN bs a b 4)) ∧ Rdr w' L p bs (rdA bs a b 4) (rdB bs a b 4) ∧ Kp [p] w w' := by
  have H := Lib.hid h
  have HB := Lib.hid hb
  have hlt := rdN_lt bs a b 4 hb
  have hlt2 : rdN bs a b 4 ≤ 4294967295 := Nat.le_of_lt_succ (show rdN bs a b 4 < 4294967296 from hlt)
  clear h hb hlt
  go_enter Try.func50, Try.ntmps50
  go_wp2_with fail
  refine (cnumber_any p bs a b 4 _ H.out HB.out (by omega)).mono ?_
  rintro e w1 ⟨rfl, hp, kp⟩
  go_wp2_with fail
  go_ret
  exact ⟨rfl, hp, kp⟩
theorem cu8_any (p : Nat) (bs : List Int) (a : Nat) (b : Bool) (w : World) (h : Rdr w L p bs a b) (hb : Bytes8 bs) :
    Calls Try.prog 51 #[.pointer (some ⟨p, 0, none⟩)] w fun e w' => e = .returned (.int .u8 (rdN bs a b 1)) ∧ Rdr w' L p bs (rdA bs a b 1) (rdB bs a b 1) ∧ Kp [p] w w' := by
  have H := Lib.hid h
  have HB := Lib.hid hb
  have hlt := rdN_lt bs a b 1 hb
  have hlt2 : rdN bs a b 1 ≤ 255 := Nat.le_of_lt_succ (show rdN bs a b 1 < 256 from hlt)
  clear h hb hlt
  go_enter Try.func51, Try.ntmps51
  go_wp2_with fail
  refine (cnumber_any p bs a b 1 _ H.out HB.out (by omega)).mono ?_
  rintro e w1 ⟨rfl, hp, kp⟩
  go_wp2_with fail
  go_ret
  exact ⟨rfl, hp, kp⟩

/-- The next bytes: what is told. -/
def rdS (bs : List Int) (a : Nat) (b : Bool) (n : Int) : List Int := if b = false ∧ 0 ≤ n ∧ a + n.toNat ≤ bs.length then sub bs a (a + n.toNat) else []
def rdSA (bs : List Int) (a : Nat) (b : Bool) (n : Int) : Nat := if b = false ∧ 0 ≤ n ∧ a + n.toNat ≤ bs.length then a + n.toNat else a
def rdSB (bs : List Int) (a : Nat) (b : Bool) (n : Int) : Bool := !decide (b = false ∧ 0 ≤ n ∧ a + n.toNat ≤ bs.length)

set_option maxHeartbeats 400000 in
theorem cbytes_any (p : Nat) (bs : List Int) (a : Nat) (b : Bool) (n : Int) (w : World) (h : Rdr w L p bs a b) :
    Calls Try.prog 54 #[.pointer (some ⟨p, 0, none⟩), .int .i64 n] w fun e w' => ∃ ad cap, e = .returned (.slice ad (rdS bs a b n).length cap) ∧ Own w' w.heap.size 5 .u8 ad cap (rdS bs a b n) ∧ Rdr w' L p bs (rdSA bs a b n) (rdSB bs a b n) ∧ Kp [p] w w' := by
  have hle : a ≤ bs.length ∧ bs.length ≤ 1099511627776 := h.le
  have H := Lib.hid h
  clear h
  by_cases hc : b = false ∧ 0 ≤ n ∧ a + n.toNat ≤ bs.length
  · have e1 : rdS bs a b n = sub bs a (a + n.toNat) := if_pos hc
    have e2 : rdSA bs a b n = a + n.toNat := if_pos hc
    have e3 : rdSB bs a b n = false := by simp only [rdSB, decide_eq_true hc]; rfl
    rw [e1, e2, e3]
    obtain ⟨rfl, h0, hc⟩ := hc
    obtain ⟨m, rfl⟩ := Int.eq_ofNat_of_zero_le h0
    rw [Int.toNat_natCast] at hc ⊢
    have hl : (sub bs a (a + m)).length = m := by rw [sub_length _ _ _ hc]; omega
    rw [hl]
    have HL := Lib.hid hl
    clear e1 e2 e3 hl
    go_enter Try.func54, Try.ntmps54
    go_wp2_with fail
    refine (csome_yes p bs a m _ H.out hc).mono ?_
    rintro e w1 ⟨ad, cap, rfl, hr, hp, kp⟩
    go_wp2_with fail
    refine (clone_any ad cap m _ HL.out.symm _ hr (by omega)).mono ?_
    rintro e w2 ⟨ad2, cap2, rfl, ho, kp2⟩
    go_wp2_with fail
    go_ret
    exact ⟨ad2, cap2, rfl, ho.mono kp.size, hp.keep kp2, kp.trans kp2 (by simp) (by simp)⟩
  · have e1 : rdS bs a b n = [] := if_neg hc
    have e2 : rdSA bs a b n = a := if_neg hc
    have e3 : rdSB bs a b n = true := by simp only [rdSB, decide_eq_false hc]; rfl
    rw [e1, e2, e3]
    have hn : ¬ rok bs a b n := fun hr => hc ⟨hr.1, hr.2.1, by have := hr.2.1; have := hr.2.2; omega⟩
    have HN := Lib.hid hn
    clear e1 e2 e3 hc hn
    go_enter Try.func54, Try.ntmps54
    go_wp2_with fail
    refine (csome_no p bs a b n _ H.out HN.out).mono ?_
    rintro e w1 ⟨rfl, hp, kp⟩
    go_wp2_with fail
    refine (clone_any none 0 0 [] rfl _ ⟨by simp, by omega, by simp⟩ (by omega)).mono ?_
    rintro e w2 ⟨ad2, cap2, rfl, ho, kp2⟩
    go_wp2_with fail
    go_ret
    exact ⟨ad2, cap2, rfl, ho.mono kp.size, hp.keep kp2, kp.trans kp2 (by simp) (by simp)⟩

theorem rd_yes {bs : List Int} {a n : Nat} (h : a + n ≤ bs.length) : rdN bs a false n = leN (sub bs a (a + n)) ∧ rdA bs a false n = a + n ∧ rdB bs a false n = false := by
  have hc : false = false ∧ a + n ≤ bs.length := ⟨rfl, h⟩
  exact ⟨if_pos hc, if_pos hc, by unfold rdB; rw [decide_eq_true hc]; rfl⟩
theorem rd_no {bs : List Int} {a n : Nat} {b : Bool} (hc : ¬ (b = false ∧ a + n ≤ bs.length)) : rdN bs a b n = 0 ∧ rdA bs a b n = a ∧ rdB bs a b n = true :=
  ⟨if_neg hc, if_neg hc, by unfold rdB; rw [decide_eq_false hc]; rfl⟩
theorem rdS_yes {bs : List Int} {a n : Nat} (h : a + n ≤ bs.length) : rdS bs a false n = sub bs a (a + n) ∧ rdSA bs a false n = a + n ∧ rdSB bs a false n = false := by
  have hc : false = false ∧ 0 ≤ (n : Int) ∧ a + (n : Int).toNat ≤ bs.length := ⟨rfl, by omega, by simpa using h⟩
  exact ⟨by unfold rdS; rw [if_pos hc, Int.toNat_natCast], by unfold rdSA; rw [if_pos hc, Int.toNat_natCast], by unfold rdSB; rw [decide_eq_true hc]; rfl⟩
theorem rdS_no {bs : List Int} {a : Nat} {b : Bool} {n : Int} (hc : ¬ (b = false ∧ 0 ≤ n ∧ a + n.toNat ≤ bs.length)) : rdS bs a b n = [] ∧ rdSA bs a b n = a ∧ rdSB bs a b n = true :=
  ⟨if_neg hc, if_neg hc, by unfold rdSB; rw [decide_eq_false hc]; rfl⟩
end Go.Proofs.Ytgdiffabnalidaa
