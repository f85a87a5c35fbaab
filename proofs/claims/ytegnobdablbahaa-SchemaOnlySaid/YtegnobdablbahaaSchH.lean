/-
  Schema: what bytes are read as: the plain laws.
-/
import Derived.Test.YtegnobdablbahaaSchG
import Derived.Test.YtegnobdablbahaaSch7
namespace Go.Proofs.Ytegnobdablbahaa
open Go.RowKit
set_option linter.unusedSimpArgs false
set_option linter.unusedVariables false

def fb (p : Bool × Bool) : Int := (bif p.1 then 1 else 0) + (bif p.2 then 2 else 0)
def spB (z : Int) : List Int := le z.toNat 2
theorem fb_rng (p : Bool × Bool) : 0 ≤ fb p ∧ fb p ≤ 3 := by rcases p with ⟨_ | _, _ | _⟩ <;> decide
theorem fb_of (v : Nat) (h : ¬ 3 < v) : (v : Int) = fb (decide (v % 2 = 1), decide (2 ≤ v)) := by
  have : v = 0 ∨ v = 1 ∨ v = 2 ∨ v = 3 := by omega
  rcases this with rfl | rfl | rfl | rfl <;> rfl
theorem fb_to {v : Nat} {p : Bool × Bool} (h : (v : Int) = fb p) : ¬ 3 < v ∧ decide (v % 2 = 1) = p.1 ∧ decide (2 ≤ v) = p.2 := by
  rcases p with ⟨_ | _, _ | _⟩ <;> simp [fb] at h
  · have : v = 0 := by omega
    subst this; decide
  · have : v = 2 := by omega
    subst this; decide
  · have : v = 1 := by omega
    subst this; decide
  · have : v = 3 := by omega
    subst this; decide
theorem flags_fwd (zs : List Int) : ∀ (F : List (Bool × Bool)) (pre r : List Int) (A B : List Bool), zs = pre ++ (F.map fb ++ r) →
    flagsF zs F.length pre.length false A B = some (A ++ F.map (·.1), B ++ F.map (·.2), (pre ++ F.map fb).length, false)
  | [], pre, r, A, B, _ => by simp [flagsF]
  | x :: F, pre, r, A, B, hz => by
    have e1 : zs = pre ++ (fb x :: (F.map fb ++ r)) := by rw [hz]; simp
    obtain ⟨k1, k2, k3⟩ := rd_one e1 (fb_rng x).1
    obtain ⟨g1, g2, g3⟩ := fb_to k1
    have ih := flags_fwd zs F (pre ++ [fb x]) r (A ++ [x.1]) (B ++ [x.2]) (by rw [hz]; simp)
    rw [List.length_append] at ih
    rw [List.length_cons, flagsF, if_neg g1, g2, g3, k2, k3]
    simp only [List.length_cons, List.length_nil, Nat.zero_add] at ih
    rw [ih]; simp
theorem flags_bad (zs : List Int) : ∀ (k a : Nat) (A B A' B' : List Bool) (a' : Nat) (b' : Bool), flagsF zs k a true A B = some (A', B', a', b') → b' = true
  | 0, a, A, B, A', B', a', b', h => by
    simp only [flagsF, Option.some.injEq, Prod.mk.injEq] at h
    exact h.2.2.2.symm
  | k + 1, a, A, B, A', B', a', b', h => by
    rw [flagsF] at h
    rw [(rd_bad zs a 1).1, (rd_bad zs a 1).2.1, (rd_bad zs a 1).2.2, if_neg (by omega)] at h
    exact flags_bad zs k a _ _ A' B' a' b' h
theorem flags_back (zs : List Int) (hb : Bytes8 zs) : ∀ (k a : Nat) (b : Bool) (A B A' B' : List Bool) (a' : Nat), a ≤ zs.length → flagsF zs k a b A B = some (A', B', a', false) →
    b = false ∧ ∃ F : List (Bool × Bool), A' = A ++ F.map (·.1) ∧ B' = B ++ F.map (·.2) ∧ F.length = k ∧ a ≤ a' ∧ a' ≤ zs.length ∧ sub zs a a' = F.map fb
  | 0, a, b, A, B, A', B', a', ha, h => by
    simp only [flagsF, Option.some.injEq, Prod.mk.injEq] at h
    obtain ⟨rfl, rfl, rfl, rfl⟩ := h
    exact ⟨rfl, [], by simp, by simp, rfl, Nat.le_refl _, ha, by simp [sub]⟩
  | k + 1, a, true, A, B, A', B', a', ha, h => by cases flags_bad zs _ _ _ _ _ _ _ _ h
  | k + 1, a, false, A, B, A', B', a', ha, h => by
    refine ⟨rfl, ?_⟩
    rw [flagsF] at h
    split at h
    · cases h
    rename_i hv
    by_cases c1 : a + 1 ≤ zs.length
    · obtain ⟨x1, x2, x3⟩ := rd_yes c1
      rw [x2, x3] at h
      obtain ⟨-, F, e1, e2, e3, e4, e5, e6⟩ := flags_back zs hb k _ _ _ _ A' B' a' c1 h
      refine ⟨(decide (rdN zs a false 1 % 2 = 1), decide (2 ≤ rdN zs a false 1)) :: F, by rw [e1, List.append_assoc]; rfl, by rw [e2, List.append_assoc]; rfl, by simp [e3], by omega, e5, ?_⟩
      rw [sub_split zs a (a + 1) a' (by omega) (by omega), e6, List.map_cons, ← fb_of _ hv, sub_byte hb c1, ← x1]
      rfl
    · obtain ⟨y1, y2, y3⟩ := rd_no (bs := zs) (a := a) (b := false) (n := 1) (by simpa using c1)
      rw [y2, y3] at h
      cases flags_bad zs _ _ _ _ _ _ _ _ h
theorem spl_fwd (zs : List Int) (n : Nat) (hn : n ≤ 65536) : ∀ (P pre r acc : List Int), (∀ z ∈ P, 0 ≤ z ∧ z < n) → zs = pre ++ (P.flatMap spB ++ r) →
    splF zs n P.length pre.length false acc = some (acc ++ P, (pre ++ P.flatMap spB).length, false)
  | [], pre, r, acc, _, _ => by simp [splF]
  | x :: P, pre, r, acc, hv, hz => by
    obtain ⟨h1, h2⟩ := hv x (by simp)
    have e1 : zs = pre ++ (le x.toNat 2 ++ (P.flatMap spB ++ r)) := by rw [hz]; simp [spB]
    obtain ⟨k1, k2, k3⟩ := rd_le e1 (by omega)
    have ih := spl_fwd zs n hn P (pre ++ spB x) r (acc ++ [x]) (fun y hy => hv y (by simp [hy])) (by rw [hz]; simp)
    rw [List.length_cons, splF, k1, k2, k3, if_neg (by omega)]
    have hpl : pre.length + 2 = (pre ++ spB x).length := by rw [List.length_append, spB, le_length]
    rw [hpl, show ((x.toNat : Nat) : Int) = x by omega, ih]
    simp
theorem spl_bad (zs : List Int) (n : Nat) : ∀ (k a : Nat) (acc P : List Int) (a' : Nat) (b' : Bool), splF zs n k a true acc = some (P, a', b') → b' = true
  | 0, a, acc, P, a', b', h => by
    simp only [splF, Option.some.injEq, Prod.mk.injEq] at h
    exact h.2.2.symm
  | k + 1, a, acc, P, a', b', h => by
    rw [splF] at h
    rw [(rd_bad zs a 2).1, (rd_bad zs a 2).2.1, (rd_bad zs a 2).2.2, if_neg (by simp)] at h
    exact spl_bad zs n k a _ P a' b' h
theorem spl_back (zs : List Int) (hb : Bytes8 zs) (n : Nat) : ∀ (k a : Nat) (b : Bool) (acc out : List Int) (a' : Nat), a ≤ zs.length → splF zs n k a b acc = some (out, a', false) →
    b = false ∧ ∃ P, out = acc ++ P ∧ P.length = k ∧ a ≤ a' ∧ a' ≤ zs.length ∧ sub zs a a' = P.flatMap spB
  | 0, a, b, acc, out, a', ha, h => by
    simp only [splF, Option.some.injEq, Prod.mk.injEq] at h
    obtain ⟨rfl, rfl, rfl⟩ := h
    exact ⟨rfl, [], by simp, rfl, Nat.le_refl _, ha, by simp [sub]⟩
  | k + 1, a, true, acc, out, a', ha, h => by cases spl_bad zs _ _ _ _ _ _ _ h
  | k + 1, a, false, acc, out, a', ha, h => by
    refine ⟨rfl, ?_⟩
    rw [splF] at h
    split at h
    · cases h
    by_cases c1 : a + 2 ≤ zs.length
    · obtain ⟨x1, x2, x3⟩ := rd_yes c1
      rw [x2, x3] at h
      obtain ⟨-, P, e1, e2, e3, e4, e5⟩ := spl_back zs hb n k _ _ _ out a' c1 h
      refine ⟨_ :: P, by rw [e1, List.append_assoc]; rfl, by simp [e2], by omega, e4, ?_⟩
      rw [sub_split zs a (a + 2) a' (by omega) (by omega), e5, List.flatMap_cons, spB, Int.toNat_natCast, x1, sub_leN hb c1]
    · obtain ⟨y1, y2, y3⟩ := rd_no (bs := zs) (a := a) (b := false) (n := 2) (by simpa using c1)
      rw [y2, y3] at h
      cases spl_bad zs _ _ _ _ _ _ _ h

theorem len1 (x : List Int) (z : Int) : x.length + 1 = (x ++ [z]).length := by simp
/-- The flags of a configuration, by column. -/
def flF (c : Cfg) (n : Nat) : List (Bool × Bool) := (List.range n).map fun i => (hasB c.inv (i : Nat), hasB c.rng (i : Nat))
theorem flF_length (c : Cfg) (n : Nat) : (flF c n).length = n := by simp [flF]
theorem flF_map (c : Cfg) (n : Nat) : (flF c n).map fb = (List.range n).map (flagN c) := by rw [flF, List.map_map]; rfl
/-- A configuration as it is read again. -/
def normC (c : Cfg) (n : Nat) (f : Int) : Cfg := mkC c.srt ((flF c n).map (·.1)) ((flF c n).map (·.2)) c.spl f
theorem at0_fl (c : Cfg) (n i : Nat) (h : i < n) : hasB ((flF c n).map (·.1)) (i : Nat) = hasB c.inv (i : Nat) ∧ hasB ((flF c n).map (·.2)) (i : Nat) = hasB c.rng (i : Nat) := by
  constructor
  · rw [has_at _ _ (by simp [flF_length, h])]; simp [at0, flF, h]
  · rw [has_at _ _ (by simp [flF_length, h])]; simp [at0, flF, h]
/-- What stands in the bytes, up to the last number. -/
theorem rd_head {l : List Col} {c : Cfg} (hf : CFit l c) {zs r : List Int} (hz : zs = bytS l c c.spl.length ++ r) :
    rdX zs = endR zs l (some (normC c l.length (rdN zs (bytS l c c.spl.length).length false 4 : Nat), rdA zs (bytS l c c.spl.length).length false 4, rdB zs (bytS l c c.spl.length).length false 4)) := by
  have hn := hf.n
  have e0 : zs = [] ++ (le l.length 2 ++ (l.flatMap colB ++ (le (c.srt + 1).toNat 2 ++ ((flF c l.length).map fb ++ ([(c.spl.length : Int)] ++ (c.spl.flatMap spB ++ r)))))) := by
    rw [hz, bytS, bytB, bytA, flF_map]; simp [spB]; rfl
  obtain ⟨a1, a2, a3⟩ := rd_le e0 (by omega)
  simp only [List.length_nil, Nat.zero_add] at a1 a2 a3
  have h1 : colsR zs = some (l, (le l.length 2 ++ l.flatMap colB).length, false) := by
    rw [colsR, a1, if_neg (by omega), a2, a3]
    have := cols_fwd zs l (le l.length 2) _ [] (fun x hx => by
      obtain ⟨i, hi, rfl⟩ := List.getElem_of_mem hx
      have := hf.col i hi
      rw [atC_eq l i hi] at this
      omega) e0
    rw [le_length] at this
    rw [this]; rfl
  have e2 : zs = (le l.length 2 ++ l.flatMap colB) ++ (le (c.srt + 1).toNat 2 ++ ((flF c l.length).map fb ++ ([(c.spl.length : Int)] ++ (c.spl.flatMap spB ++ r)))) := by rw [e0]; simp
  have hs := hf.srt
  obtain ⟨b1, b2, b3⟩ := rd_le e2 (by omega)
  have e3 : zs = (le l.length 2 ++ l.flatMap colB ++ le (c.srt + 1).toNat 2) ++ ((flF c l.length).map fb ++ ([(c.spl.length : Int)] ++ (c.spl.flatMap spB ++ r))) := by rw [e0]; simp
  have h3 := flags_fwd zs (flF c l.length) _ _ [] [] e3
  rw [flF_length, List.length_append, le_length, List.nil_append, List.nil_append] at h3
  have e4 : zs = (le l.length 2 ++ l.flatMap colB ++ le (c.srt + 1).toNat 2 ++ (flF c l.length).map fb) ++ ((c.spl.length : Int) :: (c.spl.flatMap spB ++ r)) := by rw [e0]; simp
  obtain ⟨d1, d2, d3⟩ := rd_one e4 (by omega)
  have e5 : zs = (le l.length 2 ++ l.flatMap colB ++ le (c.srt + 1).toNat 2 ++ (flF c l.length).map fb ++ [(c.spl.length : Int)]) ++ (c.spl.flatMap spB ++ r) := by rw [e0]; simp
  have h5 := spl_fwd zs l.length (by omega) c.spl _ r [] (fun z hz => by
    obtain ⟨i, hi, rfl⟩ := List.getElem_of_mem hz
    have := hf.spl i hi
    simpa [nth, hi] using this) e5
  have hS : le l.length 2 ++ l.flatMap colB ++ le (c.srt + 1).toNat 2 ++ (flF c l.length).map fb ++ [(c.spl.length : Int)] ++ c.spl.flatMap spB = bytS l c c.spl.length := by
    rw [bytS, bytB, bytA, flF_map]; simp [spB]; rfl
  rw [hS] at h5
  rw [List.nil_append] at h5
  have d1' : rdN zs (le l.length 2 ++ l.flatMap colB ++ le (c.srt + 1).toNat 2 ++ (flF c l.length).map fb).length false 1 = c.spl.length := by omega
  have hns := hf.ns
  rw [rdX, h1]
  show endR zs l (cfgF zs l.length _ false) = _
  rw [cfgF, b1, if_neg (by omega), b2, b3, h3]
  show endR zs l (cfgM zs l.length _ (some (_, _, _, false))) = _
  have hpl : (le l.length 2 ++ l.flatMap colB ++ le (c.srt + 1).toNat 2 ++ (flF c l.length).map fb).length + 1 = (le l.length 2 ++ l.flatMap colB ++ le (c.srt + 1).toNat 2 ++ (flF c l.length).map fb ++ [(c.spl.length : Int)]).length := len1 _ _
  rw [cfgM, d1', if_neg (by omega), d2, d3, hpl, h5, cfgS, show (((c.srt + 1).toNat : Nat) : Int) - 1 = c.srt by omega]
  rfl

theorem fits_norm {l : List Col} {c : Cfg} (h : fitsC l c = true) : fitsC l (normC c l.length c.leaf) = true := by
  have h0 := h
  simp only [fitsC, Bool.and_eq_true] at h
  obtain ⟨h1, h2, h3, h4, h5, h6⟩ := h
  have f1 := (flag_iff l c.inv).1 h3
  have f2 := (flag_iff l c.rng).1 h4
  have g1 : flagC l ((flF c l.length).map (·.1)) = true := (flag_iff _ _).2 ⟨by simp [lenR, flF_length], fun k hk hd => by rw [(at0_fl c l.length k hk).1]; exact f1.2 k hk hd⟩
  have g2 : flagC l ((flF c l.length).map (·.2)) = true := (flag_iff _ _).2 ⟨by simp [lenR, flF_length], fun k hk hd => by rw [(at0_fl c l.length k hk).2]; exact f2.2 k hk hd⟩
  show (mayC l && (srtC l c.srt && (flagC l ((flF c l.length).map (·.1)) && (flagC l ((flF c l.length).map (·.2)) && (!upto c.spl.length (badS l c.spl) && tailC c))))) = true
  rw [h1, h2, g1, g2, h5, h6]; rfl
theorem same_norm {l : List Col} {c : Cfg} (h : fitsC l c = true) : sameC c (normC c l.length c.leaf) = true := by
  have hf := fitsC_ok h
  simp only [sameC, Bool.and_eq_true, nupto, decide_eq_true_eq]
  refine ⟨fun k _ => ?_, rfl, (eqI_iff _ _).2 rfl, rfl⟩
  by_cases hk : k < l.length
  · have := at0_fl c l.length k hk
    rw [difF]
    show ((hasB c.inv _ != hasB ((flF c l.length).map (·.1)) _) || (hasB c.rng _ != hasB ((flF c l.length).map (·.2)) _)) = false
    rw [this.1, this.2]; simp
  · rw [difF]
    show ((hasB c.inv _ != hasB ((flF c l.length).map (·.1)) _) || (hasB c.rng _ != hasB ((flF c l.length).map (·.2)) _)) = false
    rw [has_no _ _ (show ¬ k < c.inv.length by rcases hf.inv with h | h <;> omega), has_no _ _ (show ¬ k < c.rng.length by rcases hf.rng with h | h <;> omega), has_no _ _ (show ¬ k < ((flF c l.length).map (·.1)).length by simp [flF_length]; omega), has_no _ _ (show ¬ k < ((flF c l.length).map (·.2)).length by simp [flF_length]; omega)]
    rfl
/-- What is written is read again. -/
theorem rd_wrC {l : List Col} {c : Cfg} (h : fitsC l c = true) : rdX (bytC l c) = (0, l, some (normC c l.length c.leaf)) := by
  have hf := fitsC_ok h
  have hl := hf.leaf
  rw [rd_head hf (zs := bytC l c) (r := le c.leaf.toNat 4) rfl]
  obtain ⟨a1, a2, a3⟩ := rd_le (zs := bytC l c) (pre := bytS l c c.spl.length) (v := c.leaf.toNat) (k := 4) (r := []) (by rw [List.append_nil]; rfl) (by omega)
  rw [a1, a2, a3, show ((c.leaf.toNat : Nat) : Int) = c.leaf by omega, endR, if_neg (by simp), if_neg (by rw [fits_norm h, bytC, List.length_append, le_length]; simp)]
theorem rd_more {l : List Col} {c : Cfg} (h : fitsC l c = true) (x : Int) : (rdX (bytC l c ++ [x])).1 = 5 := by
  have hf := fitsC_ok h
  have hl := hf.leaf
  rw [rd_head hf (zs := bytC l c ++ [x]) (r := le c.leaf.toNat 4 ++ [x]) (by rw [bytC, List.append_assoc])]
  obtain ⟨a1, a2, a3⟩ := rd_le (zs := bytC l c ++ [x]) (pre := bytS l c c.spl.length) (v := c.leaf.toNat) (k := 4) (r := [x]) (by rw [bytC, List.append_assoc]) (by omega)
  rw [a1, a2, a3, endR, if_neg (by simp), if_pos (by left; rw [bytC, List.length_append, List.length_append, le_length]; simp)]
theorem rd_less {l : List Col} {c : Cfg} (h : fitsC l c = true) : (rdX ((bytC l c).take ((bytC l c).length - 1))).1 = 4 := by
  have hf := fitsC_ok h
  have hz : (bytC l c).take ((bytC l c).length - 1) = bytS l c c.spl.length ++ (le c.leaf.toNat 4).take 3 := by
    rw [bytC, List.length_append, le_length, List.take_append, List.take_of_length_le (by omega), show (bytS l c c.spl.length).length + 4 - 1 - (bytS l c c.spl.length).length = 3 by omega]
  rw [hz, rd_head hf (zs := bytS l c c.spl.length ++ (le c.leaf.toNat 4).take 3) (r := (le c.leaf.toNat 4).take 3) rfl]
  obtain ⟨a1, a2, a3⟩ := rd_no (bs := bytS l c c.spl.length ++ (le c.leaf.toNat 4).take 3) (a := (bytS l c c.spl.length).length) (b := false) (n := 4) (by simp [le_length])
  rw [a1, a2, a3, endR, if_pos rfl]

/-- Bytes that are read are what is written of what they are. -/
theorem rd_back {zs : List Int} (hb : Bytes8 zs) {l : List Col} {d : Cfg} (h : rdX zs = (0, l, some d)) : fitsC l d = true ∧ bytC l d = zs ∧ d.inv.length = l.length ∧ d.rng.length = l.length := by
  rw [rdX] at h
  split at h
  · cases h
  rename_i l1 a1 b1 hcols
  cases hcf : cfgF zs l1.length a1 b1 with
  | none => rw [hcf] at h; cases h
  | some t =>
    obtain ⟨d1, a2, b2⟩ := t
    rw [hcf, endR] at h
    split at h
    · cases h
    rename_i hb2
    have hb2 : b2 = false := by simpa using hb2
    subst hb2
    split at h
    · cases h
    rename_i he
    simp only [Prod.mk.injEq, Option.some.injEq, true_and] at h
    obtain ⟨rfl, rfl⟩ := h
    have he1 : ¬ a2 < zs.length := fun hx => he (.inl hx)
    have hfit : fitsC l1 d1 = true := by cases hx : fitsC l1 d1 <;> simp_all
    refine ⟨hfit, ?_⟩
    -- the configuration
    rw [cfgF] at hcf
    split at hcf
    · cases hcf
    rename_i hs
    cases hfl : flagsF zs l1.length (rdA zs a1 b1 2) (rdB zs a1 b1 2) [] [] with
    | none => rw [hfl] at hcf; cases hcf
    | some t =>
      obtain ⟨A, B, a3, b3⟩ := t
      rw [hfl, cfgM] at hcf
      split at hcf
      · cases hcf
      rename_i hm
      cases hsp : splF zs l1.length (rdN zs a3 b3 1) (rdA zs a3 b3 1) (rdB zs a3 b3 1) [] with
      | none => rw [hsp] at hcf; cases hcf
      | some t =>
        obtain ⟨P, a4, b4⟩ := t
        rw [hsp, cfgS] at hcf
        simp only [Option.some.injEq, Prod.mk.injEq] at hcf
        obtain ⟨rfl, rfl, hb4⟩ := hcf
        obtain ⟨rfl, k1, k2, k3⟩ := rdB_false hb4
        rw [colsR] at hcols
        split at hcols
        · cases hcols
        rename_i hN
        have hmono : ∀ {a n : Nat} {b : Bool}, rdB zs a b n = false → a ≤ zs.length := fun h => by have := (rdB_false h).2.1; omega
        -- backwards, place by place
        have hb3 : rdB zs a3 b3 1 = false := by
          cases hx : rdB zs a3 b3 1
          · rfl
          · rw [hx] at hsp; cases spl_bad _ _ _ _ _ _ _ _ hsp
        obtain ⟨rfl, m1, m2, m3⟩ := rdB_false hb3
        have hb1 : rdB zs a1 b1 2 = false := by
          cases hx : rdB zs a1 b1 2
          · rfl
          · rw [hx] at hfl; cases flags_bad _ _ _ _ _ _ _ _ _ hfl
        obtain ⟨rfl, n1, n2, n3⟩ := rdB_false hb1
        have hb0 : rdB zs 0 false 2 = false := by
          cases hx : rdB zs 0 false 2
          · rfl
          · rw [hx] at hcols; cases cols_bad _ _ _ _ _ _ _ hcols
        obtain ⟨-, o1, o2, o3⟩ := rdB_false hb0
        rw [Nat.zero_add] at o1 o2 o3
        rw [o3] at hcols
        rw [n3] at hfl
        rw [m3] at hsp
        obtain ⟨-, cs, q1, q2, q3, q4, q5⟩ := cols_back zs hb _ _ _ _ _ _ o1 hcols
        obtain ⟨-, F, r1, r2, r3, r4, r5, r6⟩ := flags_back zs hb _ _ _ _ _ _ _ _ n1 hfl
        obtain ⟨-, Q, t1, t2, t3, t4, t5⟩ := spl_back zs hb _ _ _ _ _ _ _ m1 hsp
        rw [List.nil_append] at q1 r1 r2 t1
        subst q1 r1 r2 t1
        refine ⟨?_, by show (F.map (·.1)).length = _; rw [List.length_map]; exact r3, by show (F.map (·.2)).length = _; rw [List.length_map]; exact r3⟩
        have hlen : rdA zs a4 false 4 = zs.length := by omega
        have z0 : sub zs 0 zs.length = zs := by rw [sub]; simp
        have hF : (List.range l1.length).map (flagN (mkC ((rdN zs a1 false 2 : Nat) - 1) (F.map (·.1)) (F.map (·.2)) P (rdN zs a4 false 4 : Nat))) = F.map fb := by
          apply List.ext_getElem (by simp [r3])
          intro i h1 h2
          simp only [List.length_map, List.length_range] at h1 h2
          simp only [List.getElem_map, List.getElem_range, flagN]
          show (bif hasB (F.map (·.1)) _ then (1 : Int) else 0) + (bif hasB (F.map (·.2)) _ then 2 else 0) = fb F[i]
          rw [has_at _ _ (by simpa using h2), has_at _ _ (by simpa using h2)]
          simp [at0, h2, fb]
        have e1 : sub zs 0 2 = le l1.length 2 := by
          rw [← sub_leN hb (a := 0) (n := 2) (by omega), q2]; rw [← o2]
        have e2 : sub zs a1 (a1 + 2) = le (((rdN zs a1 false 2 : Nat) : Int) - 1 + 1).toNat 2 := by
          rw [← sub_leN hb n1, ← n2]; congr 1; omega
        have e3 : sub zs a3 (a3 + 1) = [(P.length : Int)] := by rw [sub_byte hb m1, ← m2, t2]
        have e4 : sub zs a4 zs.length = le ((rdN zs a4 false 4 : Nat) : Int).toNat 4 := by
          rw [← hlen, k3, Int.toNat_natCast, k2, sub_leN hb k1]
        have hg : bytC l1 (mkC ((rdN zs a1 false 2 : Nat) - 1) (F.map (·.1)) (F.map (·.2)) P (rdN zs a4 false 4 : Nat)) = zs := by
          conv => rhs; rw [← z0]
          rw [sub_split zs 0 2 _ (by omega) (by omega), sub_split zs 2 a1 _ (by omega) (by omega), sub_split zs a1 (a1 + 2) _ (by omega) (by omega), sub_split zs (a1 + 2) a3 _ (by omega) (by omega), sub_split zs a3 (a3 + 1) _ (by omega) (by omega), sub_split zs (a3 + 1) a4 _ (by omega) (by omega), e1, e2, e3, e4, q5, r6, t5, ← hF]
          rw [bytC, bytS, bytB, bytA]
          show le l1.length 2 ++ (l1.take l1.length).flatMap colB ++ le (((rdN zs a1 false 2 : Nat) : Int) - 1 + 1).toNat 2 ++ _ ++ [(P.length : Int)] ++ (P.take P.length).flatMap spB ++ le ((rdN zs a4 false 4 : Nat) : Int).toNat 4 = _
          simp
        exact hg
end Go.Proofs.Ytegnobdablbahaa
