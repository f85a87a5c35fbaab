/-
  Schema: what bytes are read as, plain.
-/
import Derived.Test.YtegnobdablbahaaSch9
import Derived.Test.YtegnobdablbahaaListL
namespace Go.Proofs.Ytegnobdablbahaa
open Go.RowKit
set_option linter.unusedSimpArgs false
set_option linter.unusedVariables false

/-! A reader's state: the place, and whether it is bad. -/
def colsF (zs : List Int) : Nat → Nat → Bool → List Col → Option (List Col × Nat × Bool)
  | 0, a, b, acc => some (acc, a, b)
  | k + 1, a, b, acc =>
    if 3 < rdN zs a b 1 ∨ (rdN zs a b 1 = 0 ∧ rdB zs a b 1 = false) then none
    else if 64 < rdN zs (rdA zs a b 1) (rdB zs a b 1) 1 then none
    else colsF zs k (rdSA zs (rdA zs (rdA zs a b 1) (rdB zs a b 1) 1) (rdB zs (rdA zs a b 1) (rdB zs a b 1) 1) (rdN zs (rdA zs a b 1) (rdB zs a b 1) 1))
      (rdSB zs (rdA zs (rdA zs a b 1) (rdB zs a b 1) 1) (rdB zs (rdA zs a b 1) (rdB zs a b 1) 1) (rdN zs (rdA zs a b 1) (rdB zs a b 1) 1))
      (acc ++ [⟨strOfNums (rdS zs (rdA zs (rdA zs a b 1) (rdB zs a b 1) 1) (rdB zs (rdA zs a b 1) (rdB zs a b 1) 1) (rdN zs (rdA zs a b 1) (rdB zs a b 1) 1)), (rdN zs a b 1 : Nat)⟩])
def flagsF (zs : List Int) : Nat → Nat → Bool → List Bool → List Bool → Option (List Bool × List Bool × Nat × Bool)
  | 0, a, b, A, B => some (A, B, a, b)
  | k + 1, a, b, A, B =>
    if 3 < rdN zs a b 1 then none
    else flagsF zs k (rdA zs a b 1) (rdB zs a b 1) (A ++ [decide (rdN zs a b 1 % 2 = 1)]) (B ++ [decide (2 ≤ rdN zs a b 1)])
def splF (zs : List Int) (n : Nat) : Nat → Nat → Bool → List Int → Option (List Int × Nat × Bool)
  | 0, a, b, acc => some (acc, a, b)
  | k + 1, a, b, acc =>
    if n ≤ rdN zs a b 2 ∧ rdB zs a b 2 = false then none
    else splF zs n k (rdA zs a b 2) (rdB zs a b 2) (acc ++ [((rdN zs a b 2 : Nat) : Int)])
def mkC (s : Int) (A B : List Bool) (P : List Int) (f : Int) : Cfg := ⟨s, none, 0, A, none, 0, B, none, 0, P, f⟩
def cfgS (zs : List Int) (s : Int) (A B : List Bool) : Option (List Int × Nat × Bool) → Option (Cfg × Nat × Bool)
  | none => none
  | some (P, a, b) => some (mkC s A B P (rdN zs a b 4 : Nat), rdA zs a b 4, rdB zs a b 4)
def cfgM (zs : List Int) (n : Nat) (s : Int) : Option (List Bool × List Bool × Nat × Bool) → Option (Cfg × Nat × Bool)
  | none => none
  | some (A, B, a, b) => if 8 < rdN zs a b 1 then none else cfgS zs s A B (splF zs n (rdN zs a b 1) (rdA zs a b 1) (rdB zs a b 1) [])
def cfgF (zs : List Int) (n a : Nat) (b : Bool) : Option (Cfg × Nat × Bool) :=
  if (n : Int) ≤ (rdN zs a b 2 : Int) - 1 then none
  else cfgM zs n ((rdN zs a b 2 : Int) - 1) (flagsF zs n (rdA zs a b 2) (rdB zs a b 2) [] [])
def colsR (zs : List Int) : Option (List Col × Nat × Bool) := if 256 < rdN zs 0 false 2 then none else colsF zs (rdN zs 0 false 2) (rdA zs 0 false 2) (rdB zs 0 false 2) []
def endR (zs : List Int) (l : List Col) : Option (Cfg × Nat × Bool) → Int × List Col × Option Cfg
  | none => (5, [], none)
  | some (c, a, b) => if b = true then (4, [], none) else if a < zs.length ∨ fitsC l c = false then (5, [], none) else (0, l, some c)
/-- What bytes are read as. -/
def rdX (zs : List Int) : Int × List Col × Option Cfg :=
  match colsR zs with
  | none => (5, [], none)
  | some (l, a, b) => endR zs l (cfgF zs l.length a b)

/-! Reading on: what stands there. -/
theorem rd_le {zs pre r : List Int} {v k : Nat} (h : zs = pre ++ (le v k ++ r)) (hv : v < 256 ^ k) : rdN zs pre.length false k = v ∧ rdA zs pre.length false k = pre.length + k ∧ rdB zs pre.length false k = false := by
  subst h
  obtain ⟨h1, h2, h3⟩ := rd_yes (bs := pre ++ (le v k ++ r)) (a := pre.length) (n := k) (by simp [le_length])
  refine ⟨?_, h2, h3⟩
  rw [h1, sub_mid pre (le v k) r _ _ rfl (by rw [le_length]), leN_le k v hv]
theorem rd_one {zs pre r : List Int} {z : Int} (h : zs = pre ++ (z :: r)) (hz : 0 ≤ z) : ((rdN zs pre.length false 1 : Nat) : Int) = z ∧ rdA zs pre.length false 1 = pre.length + 1 ∧ rdB zs pre.length false 1 = false := by
  subst h
  obtain ⟨h1, h2, h3⟩ := rd_yes (bs := pre ++ (z :: r)) (a := pre.length) (n := 1) (by simp)
  refine ⟨?_, h2, h3⟩
  rw [h1, show pre ++ (z :: r) = pre ++ ([z] ++ r) from rfl, sub_mid pre [z] r pre.length (pre.length + 1) rfl rfl]
  simp [leN]; omega
theorem rd_str {zs pre x r : List Int} (h : zs = pre ++ (x ++ r)) : rdS zs pre.length false (x.length : Nat) = x ∧ rdSA zs pre.length false (x.length : Nat) = pre.length + x.length ∧ rdSB zs pre.length false (x.length : Nat) = false := by
  subst h
  obtain ⟨h1, h2, h3⟩ := rdS_yes (bs := pre ++ (x ++ r)) (a := pre.length) (n := x.length) (by simp)
  exact ⟨by rw [h1, sub_mid pre x r _ _ rfl rfl], h2, h3⟩
theorem cols_fwd (zs : List Int) : ∀ (cs : List Col) (pre r : List Int) (acc : List Col), (∀ x ∈ cs, 1 ≤ x.kd ∧ x.kd ≤ 3 ∧ x.nm.size ≤ 64) → zs = pre ++ (cs.flatMap colB ++ r) →
    colsF zs cs.length pre.length false acc = some (acc ++ cs, (pre ++ cs.flatMap colB).length, false)
  | [], pre, r, acc, _, _ => by simp [colsF]
  | x :: cs, pre, r, acc, hv, hz => by
    obtain ⟨h1, h2, h3⟩ := hv x (by simp)
    have e1 : zs = pre ++ (x.kd :: ((x.nm.size : Int) :: (sbytes x.nm ++ (cs.flatMap colB ++ r)))) := by rw [hz]; simp [colB]
    obtain ⟨k1, k2, k3⟩ := rd_one e1 (by omega)
    have e2 : zs = (pre ++ [x.kd]) ++ ((x.nm.size : Int) :: (sbytes x.nm ++ (cs.flatMap colB ++ r))) := by rw [hz]; simp [colB]
    obtain ⟨m1, m2, m3⟩ := rd_one e2 (by omega)
    rw [List.length_append] at m1 m2 m3
    simp only [List.length_cons, List.length_nil, Nat.zero_add] at m1 m2 m3
    have e3 : zs = (pre ++ [x.kd] ++ [(x.nm.size : Int)]) ++ (sbytes x.nm ++ (cs.flatMap colB ++ r)) := by rw [hz]; simp [colB]
    obtain ⟨s1, s2, s3⟩ := rd_str e3
    rw [sbytes_length] at s1 s2 s3
    have hl : (pre ++ [x.kd] ++ [(x.nm.size : Int)]).length = pre.length + 1 + 1 := by simp
    rw [hl] at s1 s2 s3
    have m1' : rdN zs (pre.length + 1) false 1 = x.nm.size := by omega
    have ih := cols_fwd zs cs (pre ++ colB x) r (acc ++ [x]) (fun y hy => hv y (by simp [hy])) (by rw [hz]; simp)
    rw [List.length_cons, colsF, k2, k3, m1', m2, m3, s1, s2, s3, str_sbytes, if_neg (by omega), if_neg (by omega)]
    have hpl : pre.length + 1 + 1 + x.nm.size = (pre ++ colB x).length := by rw [List.length_append, colB_length]; omega
    rw [hpl, k1, ih]
    simp
/-! Reading back: what stood there. -/
theorem rdB_false {zs : List Int} {a n : Nat} {b : Bool} (h : rdB zs a b n = false) : b = false ∧ a + n ≤ zs.length ∧ rdN zs a b n = leN (sub zs a (a + n)) ∧ rdA zs a b n = a + n := by
  simp only [rdB, Bool.not_eq_false', decide_eq_true_eq] at h
  obtain ⟨rfl, h⟩ := h
  exact ⟨rfl, h, (rd_yes h).1, (rd_yes h).2.1⟩
theorem rdSB_false {zs : List Int} {a n : Nat} {b : Bool} (h : rdSB zs a b (n : Nat) = false) : b = false ∧ a + n ≤ zs.length ∧ rdS zs a b (n : Nat) = sub zs a (a + n) ∧ rdSA zs a b (n : Nat) = a + n := by
  simp only [rdSB, Bool.not_eq_false', decide_eq_true_eq, Int.toNat_natCast] at h
  obtain ⟨rfl, -, h⟩ := h
  exact ⟨rfl, h, (rdS_yes h).1, (rdS_yes h).2.1⟩
theorem sub_leN {zs : List Int} {a n : Nat} (hb : Bytes8 zs) (h : a + n ≤ zs.length) : le (leN (sub zs a (a + n))) n = sub zs a (a + n) := by
  have := le_leN (sub zs a (a + n)) (hb.sub _ _)
  rwa [sub_length _ _ _ h, Nat.add_sub_cancel_left] at this
theorem sub_byte {zs : List Int} {a : Nat} (hb : Bytes8 zs) (h : a + 1 ≤ zs.length) : sub zs a (a + 1) = [((leN (sub zs a (a + 1)) : Nat) : Int)] := by
  have hl : (sub zs a (a + 1)).length = 1 := by rw [sub_length _ _ _ h]; omega
  have h8 := hb.sub a (a + 1)
  generalize sub zs a (a + 1) = x at *
  match x, hl with
  | [z], _ => have := h8 z (by simp); simp [leN]; omega
theorem rd_bad (zs : List Int) (a n : Nat) : rdN zs a true n = 0 ∧ rdA zs a true n = a ∧ rdB zs a true n = true := rd_no (by simp)
theorem rdS_bad (zs : List Int) (a : Nat) (n : Int) : rdS zs a true n = [] ∧ rdSA zs a true n = a ∧ rdSB zs a true n = true := rdS_no (by simp)
theorem cols_bad (zs : List Int) : ∀ (k a : Nat) (acc out : List Col) (a' : Nat) (b' : Bool), colsF zs k a true acc = some (out, a', b') → b' = true
  | 0, a, acc, out, a', b', h => by
    simp only [colsF, Option.some.injEq, Prod.mk.injEq] at h
    exact h.2.2.symm
  | k + 1, a, acc, out, a', b', h => by
    rw [colsF] at h
    simp only [(rd_bad zs a 1).1, (rd_bad zs a 1).2.1, (rd_bad zs a 1).2.2, (rdS_bad zs a _).1, (rdS_bad zs a _).2.1, (rdS_bad zs a _).2.2] at h
    rw [if_neg (by simp), if_neg (by simp)] at h
    exact cols_bad zs k a _ out a' b' h
theorem cols_back (zs : List Int) (hb : Bytes8 zs) : ∀ (k a : Nat) (b : Bool) (acc out : List Col) (a' : Nat), a ≤ zs.length → colsF zs k a b acc = some (out, a', false) →
    b = false ∧ ∃ cs, out = acc ++ cs ∧ cs.length = k ∧ a ≤ a' ∧ a' ≤ zs.length ∧ sub zs a a' = cs.flatMap colB
  | 0, a, b, acc, out, a', ha, h => by
    simp only [colsF, Option.some.injEq, Prod.mk.injEq] at h
    obtain ⟨rfl, rfl, rfl⟩ := h
    exact ⟨rfl, [], by simp, rfl, Nat.le_refl _, ha, by simp [sub]⟩
  | k + 1, a, true, acc, out, a', ha, h => by cases cols_bad zs _ _ _ _ _ _ h
  | k + 1, a, false, acc, out, a', ha, h => by
    refine ⟨rfl, ?_⟩
    rw [colsF] at h
    by_cases c1 : a + 1 ≤ zs.length
    · obtain ⟨x1, x2, x3⟩ := rd_yes c1
      rw [x2, x3] at h
      by_cases c2 : a + 1 + 1 ≤ zs.length
      · obtain ⟨y1, y2, y3⟩ := rd_yes c2
        rw [y2, y3] at h
        by_cases c3 : a + 1 + 1 + rdN zs (a + 1) false 1 ≤ zs.length
        · obtain ⟨z1, z2, z3⟩ := rdS_yes c3
          rw [z1, z2, z3] at h
          split at h
          · cases h
          · split at h
            · cases h
            · obtain ⟨-, cs, e1, e2, e3, e4, e5⟩ := cols_back zs hb k _ _ _ out a' c3 h
              refine ⟨_ :: cs, by rw [e1, List.append_assoc]; rfl, by simp [e2], by omega, e4, ?_⟩
              rw [sub_split zs a (a + 1) a' (by omega) (by omega), sub_split zs (a + 1) (a + 1 + 1) a' (by omega) (by omega), sub_split zs (a + 1 + 1) (a + 1 + 1 + rdN zs (a + 1) false 1) a' (by omega) (by omega), e5, List.flatMap_cons, colB]
              have b8 : Bytes8 (sub zs (a + 1 + 1) (a + 1 + 1 + rdN zs (a + 1) false 1)) := hb.sub _ _
              have hsz : (strOfNums (sub zs (a + 1 + 1) (a + 1 + 1 + rdN zs (a + 1) false 1))).size = rdN zs (a + 1) false 1 := by
                rw [← sbytes_length, sbytes_str b8, sub_length _ _ _ c3]; omega
              show _ = [((rdN zs a false 1 : Nat) : Int), ((strOfNums (sub zs (a + 1 + 1) (a + 1 + 1 + rdN zs (a + 1) false 1))).size : Int)] ++ sbytes _ ++ _
              rw [hsz, sbytes_str b8, sub_byte hb c1, sub_byte hb c2, ← x1, ← y1]
              simp
        · obtain ⟨z1, z2, z3⟩ := rdS_no (bs := zs) (a := a + 1 + 1) (b := false) (n := (rdN zs (a + 1) false 1 : Nat)) (by simpa using c3)
          rw [z1, z2, z3] at h
          split at h
          · cases h
          · split at h
            · cases h
            · cases cols_bad zs _ _ _ _ _ _ h
      · obtain ⟨y1, y2, y3⟩ := rd_no (bs := zs) (a := a + 1) (b := false) (n := 1) (by simpa using c2)
        rw [y1, y2, y3] at h
        split at h
        · cases h
        · split at h
          · cases h
          · rw [(rdS_bad _ _ _).2.2] at h
            cases cols_bad zs _ _ _ _ _ _ h
    · obtain ⟨y1, y2, y3⟩ := rd_no (bs := zs) (a := a) (b := false) (n := 1) (by simpa using c1)
      rw [y1, y2, y3, (rd_bad _ _ _).1, (rd_bad _ _ _).2.1, (rd_bad _ _ _).2.2, (rdS_bad _ _ _).2.2] at h
      split at h
      · cases h
      · split at h
        · cases h
        · cases cols_bad zs _ _ _ _ _ _ h
end Go.Proofs.Ytegnobdablbahaa
