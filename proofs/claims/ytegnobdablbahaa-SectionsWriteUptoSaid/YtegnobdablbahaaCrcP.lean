/-
  What is framed, read again: plain laws.
-/
import Derived.Test.YtegnobdablbahaaCrc3
namespace Go.Proofs.Ytegnobdablbahaa
open Go.RowKit
set_option linter.unusedSimpArgs false
set_option linter.unusedVariables false

/-- A frame by its parts. -/
theorem un_parts (n : Nat) (x s r : List Int) (hx : x.length = n) (hs : s.length = 4) (hn : n ≤ 1073741824) :
    unN (le n 4 ++ x ++ s ++ r) = n ∧ sub (le n 4 ++ x ++ s ++ r) 4 (4 + n) = x ∧ unfE (le n 4 ++ x ++ s ++ r) = if leN s ≠ crc x then 6 else 0 := by
  have e1 : unN (le n 4 ++ x ++ s ++ r) = n := by
    rw [unN, show le n 4 ++ x ++ s ++ r = [] ++ (le n 4 ++ (x ++ s ++ r)) by simp, sub_mid [] (le n 4) _ 0 4 rfl (by simp [le_length]), leN_le 4 n (by omega)]
  have e2 : sub (le n 4 ++ x ++ s ++ r) 4 (4 + n) = x := by
    rw [show le n 4 ++ x ++ s ++ r = le n 4 ++ (x ++ (s ++ r)) by simp, sub_mid (le n 4) x _ 4 (4 + n) (by simp [le_length]) (by omega)]
  have e3 : sub (le n 4 ++ x ++ s ++ r) (4 + n) (4 + n + 4) = s := by
    rw [show le n 4 ++ x ++ s ++ r = (le n 4 ++ x) ++ (s ++ r) by simp, sub_mid (le n 4 ++ x) s _ (4 + n) (4 + n + 4) (by simp [le_length, hx]) (by omega)]
  have e4 : (le n 4 ++ x ++ s ++ r).length = 4 + n + 4 + r.length := by simp [le_length, hx, hs]; omega
  refine ⟨e1, e2, ?_⟩
  rw [unfE, e1, e2, e3, e4, if_neg (by omega), if_neg (by omega), if_neg (by omega)]
theorem unErr_at (p l : List Int) : unErr (p ++ l) (p.length : Nat) = unfE l ∧ unL (p ++ l) (p.length : Nat) = l := by
  have e : unL (p ++ l) (p.length : Nat) = l := by
    rw [unL, Int.toNat_natCast, sub_right _ _ _ _ (Nat.le_refl _), sub]; simp
  refine ⟨?_, e⟩
  rw [unErr, if_pos ⟨by omega, by simp; omega⟩, e]
theorem un_fr (p b r : List Int) (hb : b.length ≤ 1073741824) (a : Int) (ha : a = p.length) :
    unErr (p ++ (frB b ++ r)) a = 0 ∧ unX (p ++ (frB b ++ r)) a = b ∧ unNext (p ++ (frB b ++ r)) a = a + (b.length + 8 : Nat) := by
  subst ha
  obtain ⟨e1, e2⟩ := unErr_at p (frB b ++ r)
  obtain ⟨f1, f2, f3⟩ := un_parts b.length b (le (crc b) 4) r rfl (le_length _ _) hb
  have e0 : unErr (p ++ (frB b ++ r)) (p.length : Nat) = 0 := by
    rw [e1, frB, f3, if_neg]
    rw [leN_le 4 _ (crc_lt b)]; simp
  refine ⟨e0, ?_, ?_⟩
  · rw [unX, if_pos e0, e2, frB, f1, f2]
  · rw [unNext, if_pos e0, e2, frB, f1]
theorem frB_set (b : List Int) (i : Nat) (v : Int) :
    (4 ≤ i → i < 4 + b.length → (frB b).set i v = le b.length 4 ++ b.set (i - 4) v ++ le (crc b) 4 ∧ nth (frB b) i = nth b (i - 4)) ∧
    (4 + b.length ≤ i → (frB b).set i v = le b.length 4 ++ b ++ (le (crc b) 4).set (i - (4 + b.length)) v ∧ nth (frB b) i = nth (le (crc b) 4) (i - (4 + b.length))) := by
  constructor
  · intro h1 h2
    constructor
    · rw [frB, List.set_append_left _ _ (by simp [le_length]; omega), List.set_append_right _ _ (by simp [le_length]; omega), le_length]
    · simp only [nth, frB, List.getD_eq_getElem?_getD]
      rw [List.getElem?_append_left (by simp [le_length]; omega), List.getElem?_append_right (by simp [le_length]; omega), le_length]
  · intro h1
    constructor
    · rw [frB, List.set_append_right _ _ (by simp [le_length]; omega)]; simp [le_length]
    · simp only [nth, frB, List.getD_eq_getElem?_getD]
      rw [List.getElem?_append_right (by simp [le_length]; omega)]; simp [le_length]
theorem xor_ne (z d : Nat) (hd : 0 < d) : z ^^^ d ≠ z := fun h => by
  have : z ^^^ d ^^^ z = 0 := by rw [h, Nat.xor_self]
  rw [Nat.xor_comm z d, Nat.xor_assoc, Nat.xor_self, Nat.xor_zero] at this
  omega
/-- A byte that is changed is told. -/
theorem un_flip (p b r : List Int) (hb8 : Bytes8 b) (hb : b.length ≤ 1073741824) (a : Int) (ha : a = p.length) (i d : Nat) (h4 : 4 ≤ i) (hi : i < b.length + 8) (hd : 0 < d) (hd2 : d < 256) :
    unErr (p ++ ((frB b).set i (((nth (frB b) i).toNat ^^^ d : Nat) : Int) ++ r)) a = 6 := by
  subst ha
  rw [(unErr_at p _).1]
  rcases Nat.lt_or_ge i (4 + b.length) with hlt | hge
  · obtain ⟨e1, e2⟩ := (frB_set b i (((nth (frB b) i).toNat ^^^ d : Nat) : Int)).1 h4 hlt
    rw [e1, e2]
    obtain ⟨-, -, f3⟩ := un_parts b.length (b.set (i - 4) (((nth b (i - 4)).toNat ^^^ d : Nat) : Int)) (le (crc b) 4) r (by simp) (le_length _ _) hb
    rw [f3, if_pos]
    rw [leN_le 4 _ (crc_lt b)]
    intro h
    have hx : (4294967295 : Nat) < 4294967296 := by decide
    have hb8' : Bytes8 (b.set (i - 4) (((nth b (i - 4)).toNat ^^^ d : Nat) : Int)) := fun z hz => by
      rcases List.mem_or_eq_of_mem_set hz with h | rfl
      · exact hb8 z h
      · have := hb8 _ (nth_mem (zs := b) (k := i - 4) (by omega))
        have h2 := Nat.xor_lt_two_pow (x := (nth b (i - 4)).toNat) (y := d) (n := 8) (by omega) (by omega)
        omega
    have := crcS_set b hb8 (i - 4) (by omega) d hd hd2 4294967295 hx
    have l1 := crcS_lt _ hx hb8
    have l2 := crcS_lt _ hx hb8'
    unfold crc at h
    omega
  · obtain ⟨e1, e2⟩ := (frB_set b i (((nth (frB b) i).toNat ^^^ d : Nat) : Int)).2 hge
    rw [e1, e2]
    obtain ⟨j, hj⟩ : ∃ j, j = i - (4 + b.length) := ⟨_, rfl⟩
    have hj4 : j < 4 := by omega
    rw [← hj]
    obtain ⟨-, -, f3⟩ := un_parts b.length b ((le (crc b) 4).set j (((nth (le (crc b) 4) j).toNat ^^^ d : Nat) : Int)) r rfl (by simp [le_length]) hb
    rw [f3, if_pos]
    intro h
    have hbl := le_bytes 4 (crc b)
    have hbs : Bytes8 ((le (crc b) 4).set j (((nth (le (crc b) 4) j).toNat ^^^ d : Nat) : Int)) := fun z hz => by
      rcases List.mem_or_eq_of_mem_set hz with h | rfl
      · exact hbl z h
      · have := hbl _ (nth_mem (zs := le (crc b) 4) (k := j) (by rw [le_length]; exact hj4))
        have h2 := Nat.xor_lt_two_pow (x := (nth (le (crc b) 4) j).toNat) (y := d) (n := 8) (by omega) (by omega)
        omega
    have h1 := le_leN _ hbs
    rw [h, List.length_set, le_length] at h1
    have h2 : nth (le (crc b) 4) j = (((nth (le (crc b) 4) j).toNat ^^^ d : Nat) : Int) := by
      conv => lhs; rw [h1]
      simp [nth, le_length, hj4]
    have := hbl _ (nth_mem (zs := le (crc b) 4) (k := j) (by rw [le_length]; exact hj4))
    have := xor_ne (nth (le (crc b) 4) j).toNat d hd
    omega
/-- Cut anywhere it ends too early. -/
theorem un_cut (b : List Int) (hb : b.length ≤ 1073741824) (m : Nat) (hm : m < b.length + 8) : unErr (sub (frB b) 0 m) 0 = 4 := by
  have e0 := (unErr_at [] (sub (frB b) 0 m)).1
  rw [List.nil_append] at e0
  rw [show (0 : Int) = (([] : List Int).length : Nat) from rfl, e0]
  have hl : (sub (frB b) 0 m).length = m := by rw [sub_length _ _ _ (by rw [frB_length]; omega)]; omega
  by_cases h4 : m < 4
  · rw [unfE, if_pos (by omega)]
  · have e1 : unN (sub (frB b) 0 m) = b.length := by
      rw [unN, show sub (sub (frB b) 0 m) 0 4 = le b.length 4 from ?_, leN_le 4 _ (by omega)]
      have h1 : sub (sub (frB b) 0 m) 0 4 = sub (frB b) 0 4 := by
        simp only [sub, List.drop_zero, Nat.sub_zero, List.take_take]; rw [show min 4 m = 4 by omega]
      rw [h1, frB, List.append_assoc, sub_left _ _ _ _ (by simp [le_length])]
      simp [sub]; exact List.take_of_length_le (by simp [le_length])
    rw [unfE, e1, hl, if_neg h4, if_neg (by omega), if_pos (by omega)]
theorem crc_lin (a b c : List Int) (h1 : a.length = b.length) (h2 : a.length = c.length) (ha : Bytes8 a) (hb : Bytes8 b) (hc : Bytes8 c) (hx : Bytes8 (xorL (xorL a b) c)) :
    (crc a ^^^ crc b) ^^^ crc c = crc (xorL (xorL a b) c) := by
  have hm : (4294967295 : Nat) < 4294967296 := by decide
  have e := crcS_xor (xorL a b) c (by simp [xorL]; omega) (4294967295 ^^^ 4294967295) 4294967295
  rw [crcS_xor a b h1 4294967295 4294967295] at e
  rw [show (4294967295 ^^^ 4294967295) ^^^ 4294967295 = (4294967295 : Nat) by decide] at e
  have la := crcS_lt a hm ha
  have lb := crcS_lt b hm hb
  have lc := crcS_lt c hm hc
  have lx := crcS_lt _ hm hx
  unfold crc
  rw [← not32 la, ← not32 lb, ← not32 lc, ← not32 lx, e]
  generalize crcS 4294967295 a = A
  generalize crcS 4294967295 b = B
  generalize crcS 4294967295 c = C
  apply Nat.eq_of_testBit_eq; intro i; simp only [Nat.testBit_xor]
  cases A.testBit i <;> cases B.testBit i <;> cases C.testBit i <;> cases (4294967295 : Nat).testBit i <;> rfl
end Go.Proofs.Ytegnobdablbahaa
