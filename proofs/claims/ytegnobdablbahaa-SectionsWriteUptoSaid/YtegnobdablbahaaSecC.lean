/-
  Sections: what is written is what is read: plain laws.
-/
import Derived.Test.YtegnobdablbahaaSec8
namespace Go.Proofs.Ytegnobdablbahaa
open Go.RowKit
set_option linter.unusedSimpArgs false
set_option linter.unusedVariables false

theorem sub_take' (zs : List Int) (i : Nat) : sub zs 0 i = zs.take i := by simp [sub]
abbrev SKey := ByteArray × List Int
/-- A section's bytes. -/
def kB (k : SKey) : List Int := [(k.1.size : Int)] ++ sbytes k.1 ++ frB k.2
def imgS (K : List SKey) : List Int := headB K.length ++ K.flatMap kB
theorem imgB_key (l : List Sec) : imgB l = imgS (l.map keyS) := by
  rw [imgB, imgS, List.length_map, List.flatMap_map]; rfl
theorem kB_length (k : SKey) : (kB k).length = 9 + k.1.size + k.2.length := by simp [kB, sbytes_length, frB_length]; omega
/-- What may stand as a section. -/
def okS (k : SKey) : Prop := isNm k.1 = true ∧ k.2.length ≤ 1073741824
/-- Sections that may stand behind others. -/
def okK : List SKey → List SKey → Prop
  | _, [] => True
  | acc, k :: K => okS k ∧ ¬ 0 ≤ fndK acc k.1 ∧ okK (acc ++ [k]) K

theorem isNm_all {s : ByteArray} (h : isNm s = true) : (sbytes s).all letter = true := by
  simp only [isNm, isNmG, Bool.and_eq_true] at h; exact h.1
/-- A name at its place. -/
theorem nm_at (p r : List Int) (s : ByteArray) (h : isNm s = true) : let zs := p ++ ([(s.size : Int)] ++ sbytes s ++ r); nmE zs p.length = 0 ∧ nmT zs p.length = s ∧ nmX zs p.length = p.length + 1 + s.size := by
  intro zs
  obtain ⟨h1, h2⟩ := isNm_size h
  have hz : zs = p ++ ([(s.size : Int)] ++ sbytes s ++ r) := rfl
  have e0 : nth zs p.length = s.size := by rw [hz]; simp [nth]
  have e1 : nmN zs p.length = s.size := by rw [nmN, e0]; rfl
  have e2 : nmS zs p.length = sbytes s := by
    rw [nmS, e1, hz, show p ++ ([(s.size : Int)] ++ sbytes s ++ r) = (p ++ [(s.size : Int)]) ++ (sbytes s ++ r) by simp, sub_mid _ _ _ _ _ (by simp) (by rw [sbytes_length])]
  have e3 : zs.length = p.length + 1 + s.size + r.length := by rw [hz]; simp [sbytes_length]; omega
  have e4 : nmE zs p.length = 0 := by
    rw [nmE, e1, e2, e3, if_neg (by omega), if_neg (by omega), isNm_all h, if_neg (by simp), if_neg (by omega)]
  exact ⟨e4, by rw [nmT, if_pos e4, e2, str_sbytes], by rw [nmX, if_pos e4, e1]⟩

/-- One section read. -/
theorem rd_one (p r : List Int) (k : SKey) (hk : okS k) (acc : List SKey) (hd : ¬ 0 ≤ fndK acc k.1) (n : Nat) : rdL (p ++ (kB k ++ r)) (n + 1) p.length acc = rdL (p ++ (kB k ++ r)) n (p.length + (kB k).length) (acc ++ [k]) := by
  obtain ⟨e1, e2, e3⟩ := nm_at p (frB k.2 ++ r) k.1 hk.1
  have hz : p ++ ([(k.1.size : Int)] ++ sbytes k.1 ++ (frB k.2 ++ r)) = p ++ (kB k ++ r) := by simp [kB]
  rw [hz] at e1 e2 e3
  have hz2 : p ++ (kB k ++ r) = (p ++ ([(k.1.size : Int)] ++ sbytes k.1)) ++ (frB k.2 ++ r) := by simp [kB]
  obtain ⟨f1, f2, f3⟩ := un_fr (p ++ ([(k.1.size : Int)] ++ sbytes k.1)) k.2 r hk.2 ((p.length + 1 + k.1.size : Nat) : Int) (by simp [sbytes_length]; omega)
  rw [← hz2] at f1 f2 f3
  rw [rdL, e1, if_neg (by simp), e2, if_neg hd, e3, f1, if_neg (by simp), f2, f3, kB_length]
  congr 1
  omega
/-- Sections read, one behind the other. -/
theorem rd_many : ∀ (K : List SKey) (p r : List Int) (acc : List SKey), okK acc K → ∀ n, rdL (p ++ (K.flatMap kB ++ r)) (K.length + n) p.length acc = rdL (p ++ (K.flatMap kB ++ r)) n (p.length + (K.flatMap kB).length) (acc ++ K)
  | [], p, r, acc, _, n => by simp
  | k :: K, p, r, acc, h, n => by
    have h1 := rd_one p (K.flatMap kB ++ r) k h.1 acc h.2.1 (K.length + n)
    have h2 := rd_many K (p ++ kB k) r (acc ++ [k]) h.2.2 n
    have hz : p ++ (List.flatMap kB (k :: K) ++ r) = p ++ (kB k ++ (K.flatMap kB ++ r)) := by simp
    have hz2 : p ++ kB k ++ (K.flatMap kB ++ r) = p ++ (kB k ++ (K.flatMap kB ++ r)) := by simp
    rw [hz2] at h2
    rw [hz, show (k :: K).length + n = K.length + n + 1 by simp; omega, h1]
    rw [List.length_append] at h2
    rw [h2]
    simp [Nat.add_assoc]
theorem le2 (n : Nat) : le n 2 = [((n % 256 : Nat) : Int), ((n / 256 % 256 : Nat) : Int)] := rfl
theorem headB_length (n : Nat) : (headB n).length = 6 := rfl
/-- The head read. -/
theorem rd_head (n : Nat) (hn : n ≤ 2000) (r : List Int) : rdP (headB n ++ r) = rdL (headB n ++ r) n 6 [] := by
  have h1 : sub (headB n ++ r) 0 4 = mark4 := rfl
  have h2 : hdN (headB n ++ r) = n := by
    show (((n % 256 : Nat) : Int) + 256 * ((n / 256 % 256 : Nat) : Int)).toNat = n
    omega
  have h3 : (headB n ++ r).length = 6 + r.length := by rw [List.length_append, headB_length]
  rw [rdP, h1, h2, List.take_of_length_le (by rw [h3]; simp [mark4]; omega), if_neg (by simp), if_neg (by omega), if_neg (by omega)]
/-- WHAT IS WRITTEN IS READ; what stands behind it decides. -/
theorem rd_img (K : List SKey) (hn : K.length ≤ 2000) (h : okK [] K) (r : List Int) : rdP (imgS K ++ r) = if r = [] then (0, K) else (5, []) := by
  have h1 := rd_many K (headB K.length) r [] h 0
  rw [imgS, List.append_assoc, rd_head _ hn]
  rw [headB_length, Nat.add_zero] at h1
  rw [h1, rdL, List.nil_append]
  cases r with
  | nil => simp [headB_length]
  | cons x r => simp [headB_length]

/-- A name that is cut. -/
theorem nm_cut (p : List Int) (s : ByteArray) (h : isNm s = true) (m : Nat) (hm : m < 1 + s.size) : nmE (p ++ ([(s.size : Int)] ++ sbytes s).take m) p.length = 4 := by
  obtain ⟨h1, h2⟩ := isNm_size h
  cases m with
  | zero => rw [nmE, if_pos (by simp)]
  | succ m =>
    have e3 : (p ++ ([(s.size : Int)] ++ sbytes s).take (m + 1)).length = p.length + (m + 1) := by
      rw [List.length_append, List.length_take, List.length_append, sbytes_length]; simp; omega
    have e1 : nmN (p ++ ([(s.size : Int)] ++ sbytes s).take (m + 1)) p.length = s.size := by rw [nmN]; simp [nth]
    have e2 : nmS (p ++ ([(s.size : Int)] ++ sbytes s).take (m + 1)) p.length = (sbytes s).take m := by
      rw [nmS, e1, sub_over _ _ _ (by rw [e3]; omega), e3]
      simp only [List.singleton_append, List.take_succ_cons]
      rw [show p ++ (s.size : Int) :: (sbytes s).take m = (p ++ [(s.size : Int)]) ++ ((sbytes s).take m ++ []) by simp, sub_mid _ _ _ _ _ (by simp) (by rw [List.length_take, sbytes_length]; omega)]
    have e4 : ((sbytes s).take m).all letter = true := List.all_eq_true.2 fun x hx => List.all_eq_true.1 (isNm_all h) x (List.mem_of_mem_take hx)
    rw [nmE, e1, e2, e3, if_neg (by omega), if_neg (by omega), e4, if_neg (by simp), if_pos (by omega)]
/-- One section that is cut. -/
theorem one_cut (p : List Int) (k : SKey) (hk : okS k) (acc : List SKey) (hd : ¬ 0 ≤ fndK acc k.1) (n m : Nat) (hm : m < (kB k).length) : rdL (p ++ (kB k).take m) (n + 1) p.length acc = (4, []) := by
  rw [kB_length] at hm
  by_cases h1 : m < 1 + k.1.size
  · have h2 := nm_cut p k.1 hk.1 m h1
    have h3 : (kB k).take m = ([(k.1.size : Int)] ++ sbytes k.1).take m := by
      rw [kB]; exact List.take_append_of_le_length (by simp [sbytes_length]; omega)
    rw [h3, rdL, h2, if_pos (by decide)]
  · have h3 : (kB k).take m = [(k.1.size : Int)] ++ sbytes k.1 ++ (frB k.2).take (m - (1 + k.1.size)) := by
      have hl : ([(k.1.size : Int)] ++ sbytes k.1).length = 1 + k.1.size := by simp [sbytes_length]; omega
      rw [kB, List.take_append, hl, List.take_of_length_le (by rw [hl]; omega)]
    rw [h3]
    obtain ⟨e1, e2, e3⟩ := nm_at p ((frB k.2).take (m - (1 + k.1.size))) k.1 hk.1
    have hc := un_cut k.2 hk.2 (m - (1 + k.1.size)) (by omega)
    have h4 := (unErr_at [] (sub (frB k.2) 0 (m - (1 + k.1.size)))).1
    rw [List.nil_append] at h4
    rw [show (0 : Int) = (([] : List Int).length : Nat) from rfl, h4] at hc
    rw [sub_take'] at hc
    have h5 := (unErr_at (p ++ ([(k.1.size : Int)] ++ sbytes k.1)) ((frB k.2).take (m - (1 + k.1.size)))).1
    rw [hc, show (p ++ ([(k.1.size : Int)] ++ sbytes k.1)).length = p.length + 1 + k.1.size by simp [sbytes_length]; omega, List.append_assoc] at h5
    rw [rdL, e1, if_neg (by simp), e2, if_neg hd, e3, h5, if_pos (by decide)]
theorem many_cut : ∀ (K : List SKey) (p : List Int) (acc : List SKey), okK acc K → ∀ m, m < (K.flatMap kB).length → rdL (p ++ (K.flatMap kB).take m) K.length p.length acc = (4, [])
  | [], p, acc, _, m, hm => by simp at hm
  | k :: K, p, acc, h, m, hm => by
    rw [List.flatMap_cons] at hm ⊢
    rw [List.length_append] at hm
    by_cases h1 : m < (kB k).length
    · rw [List.take_append_of_le_length (by omega)]
      exact one_cut p k h.1 acc h.2.1 K.length m h1
    · have h2 : (kB k ++ K.flatMap kB).take m = kB k ++ (K.flatMap kB).take (m - (kB k).length) := by rw [List.take_append, List.take_of_length_le (by omega)]
      rw [h2]
      have h3 := rd_one p ((K.flatMap kB).take (m - (kB k).length)) k h.1 acc h.2.1 K.length
      have h4 := many_cut K (p ++ kB k) (acc ++ [k]) h.2.2 (m - (kB k).length) (by omega)
      rw [List.length_append, List.append_assoc] at h4
      rw [List.length_cons, h3, h4]
/-- CUT ANYWHERE it ends too early. -/
theorem rd_cut (K : List SKey) (hn : K.length ≤ 2000) (h : okK [] K) (m : Nat) (hm : m < (imgS K).length) : rdP (sub (imgS K) 0 m) = (4, []) := by
  rw [sub_take']
  rw [imgS, List.length_append, headB_length] at hm
  by_cases h6 : m < 6
  · rw [imgS, List.take_append_of_le_length (by rw [headB_length]; omega)]
    have h1 : ((headB K.length).take m).length = m := by rw [List.length_take, headB_length]; omega
    rw [rdP, if_neg, if_pos (by omega)]
    rw [h1, sub_take', List.take_take, headB]
    by_cases h4 : m ≤ 4
    · rw [show min 4 m = m by omega, List.take_append_of_le_length (by simp; omega)]; simp [mark4]
    · rw [show min 4 m = 4 by omega, List.take_of_length_le (l := mark4) (by simp [mark4]; omega)]; simp [mark4]
  · rw [imgS, List.take_append, List.take_of_length_le (by rw [headB_length]; omega), rd_head _ hn, headB_length]
    have := many_cut K (headB K.length) [] h (m - 6) (by omega)
    rwa [headB_length] at this

/-- A byte of a section's contents that is changed is told. -/
theorem rd_flip (K1 K2 : List SKey) (k : SKey) (hn : (K1 ++ k :: K2).length ≤ 2000) (h : okK [] (K1 ++ k :: K2)) (hb : Bytes8 k.2) (i d : Nat) (hi : i < k.2.length) (hd : 0 < d) (hd2 : d < 256) (q : Nat) (hq : q = 6 + (K1.flatMap kB).length + 1 + k.1.size + 4 + i) :
    rdP ((imgS (K1 ++ k :: K2)).set q (((nth (imgS (K1 ++ k :: K2)) q).toNat ^^^ d : Nat) : Int)) = (6, []) ∧ q < (imgS (K1 ++ k :: K2)).length := by
  have hz : imgS (K1 ++ k :: K2) = (headB (K1 ++ k :: K2).length ++ K1.flatMap kB ++ ([(k.1.size : Int)] ++ sbytes k.1)) ++ (frB k.2 ++ K2.flatMap kB) := by simp [imgS, kB]
  have hp : (headB (K1 ++ k :: K2).length ++ K1.flatMap kB ++ ([(k.1.size : Int)] ++ sbytes k.1)).length = 6 + (K1.flatMap kB).length + 1 + k.1.size := by
    rw [List.length_append, List.length_append, headB_length]; simp [sbytes_length]; omega
  obtain ⟨p, hpd⟩ : ∃ p, p = headB (K1 ++ k :: K2).length ++ K1.flatMap kB ++ ([(k.1.size : Int)] ++ sbytes k.1) := ⟨_, rfl⟩
  rw [← hpd] at hz hp
  have hql : q = p.length + (4 + i) := by rw [hp, hq]; omega
  have e1 : nth (imgS (K1 ++ k :: K2)) q = nth (frB k.2) (4 + i) := by
    rw [hz, hql]
    simp only [nth, List.getD_eq_getElem?_getD]
    rw [List.getElem?_append_right (by omega), Nat.add_sub_cancel_left, List.getElem?_append_left (by rw [frB_length]; omega)]
  have e2 : ∀ v, (imgS (K1 ++ k :: K2)).set q v = p ++ ((frB k.2).set (4 + i) v ++ K2.flatMap kB) := fun v => by
    rw [hz, hql, List.set_append_right _ _ (by omega), Nat.add_sub_cancel_left, List.set_append_left _ _ (by rw [frB_length]; omega)]
  refine ⟨?_, by rw [hz, hql, List.length_append, List.length_append, frB_length]; omega⟩
  rw [e1, e2]
  have hok : okK [] K1 ∧ okS k ∧ ¬ 0 ≤ fndK K1 k.1 := by
    have : ∀ (A acc : List SKey), okK acc (A ++ k :: K2) → okK acc A ∧ okS k ∧ ¬ 0 ≤ fndK (acc ++ A) k.1 := by
      intro A
      induction A with
      | nil => intro acc h; exact ⟨trivial, h.1, by simpa using h.2.1⟩
      | cons x A ih =>
        intro acc h
        obtain ⟨g1, g2, g3⟩ := ih (acc ++ [x]) h.2.2
        exact ⟨⟨h.1, h.2.1, g1⟩, g2, by simpa using g3⟩
    simpa using this K1 [] h
  obtain ⟨h1, h2, h3⟩ := hok
  have hfl := un_flip p k.2 (K2.flatMap kB) hb h2.2 (p.length : Nat) rfl (4 + i) d (by omega) (by omega) hd hd2
  obtain ⟨w, hw⟩ : ∃ w, w = (frB k.2).set (4 + i) (((nth (frB k.2) (4 + i)).toNat ^^^ d : Nat) : Int) ++ K2.flatMap kB := ⟨_, rfl⟩
  rw [← hw] at hfl ⊢
  have g1 := rd_many K1 (headB (K1 ++ k :: K2).length) ([(k.1.size : Int)] ++ sbytes k.1 ++ w) [] h1 (1 + K2.length)
  have hz3 : headB (K1 ++ k :: K2).length ++ (K1.flatMap kB ++ ([(k.1.size : Int)] ++ sbytes k.1 ++ w)) = p ++ w := by rw [hpd]; simp
  rw [hz3, headB_length] at g1
  have g0 := rd_head (K1 ++ k :: K2).length hn (K1.flatMap kB ++ ([(k.1.size : Int)] ++ sbytes k.1 ++ w))
  rw [hz3, show (K1 ++ k :: K2).length = K1.length + (1 + K2.length) by simp; omega] at g0
  rw [g0, g1, List.nil_append, Nat.add_comm 1]
  obtain ⟨e1, e2, e3⟩ := nm_at (headB (K1 ++ k :: K2).length ++ K1.flatMap kB) w k.1 h2.1
  have hz4 : (headB (K1 ++ k :: K2).length ++ K1.flatMap kB) ++ ([(k.1.size : Int)] ++ sbytes k.1 ++ w) = p ++ w := by rw [hpd]; simp
  rw [hz4, List.length_append, headB_length] at e1 e2 e3
  rw [rdL, e1, if_neg (by simp), e2, if_neg h3, e3, show 6 + (K1.flatMap kB).length + 1 + k.1.size = p.length by rw [hp], hfl, if_pos (by decide)]

/-! What is read could have been written. -/
theorem isNm_of {zs : List Int} {a : Nat} (hb : Bytes8 zs) (h : nmE zs a = 0) : isNm (nmT zs a) = true ∧ zs.drop a = [((nmT zs a).size : Int)] ++ sbytes (nmT zs a) ++ zs.drop (nmX zs a) := by
  obtain ⟨g1, g2, g3, g4, g5, g6, g7⟩ := nmE_zero h
  have hl : (nmS zs a).length = nmN zs a := by rw [nmS, sub_length _ _ _ g5]; omega
  have hb8 : Bytes8 (nmS zs a) := hb.sub _ _
  have h1 : nth zs a = (nmN zs a : Int) := by have := hb _ (nth_mem g1); rw [nmN]; omega
  rw [g7, g6]
  refine ⟨by rw [isNm_in hb8 (by omega) (by omega)]; exact g4, ?_⟩
  rw [strOfNums_size, hl, sbytes_str hb8, nmS, List.drop_eq_getElem_cons g1, show zs[a] = nth zs a by simp [nth, g1], h1]
  simp only [List.singleton_append, List.cons_append, sub]
  congr 1
  rw [show a + 1 + nmN zs a - (a + 1) = nmN zs a by omega]
  have e := List.take_append_drop (nmN zs a) (zs.drop (a + 1))
  rw [List.drop_drop] at e
  simpa using e.symm
theorem fr_of {zs : List Int} {a : Nat} (hb : Bytes8 zs) (h : unErr zs a = 0) : (unX zs a).length ≤ 1073741824 ∧ zs.drop a = frB (unX zs a) ++ zs.drop (unNext zs a).toNat := by
  obtain ⟨h1, h2, h3⟩ := unErr_zero h
  have h0 := h
  have hl := unL_length zs a h1
  have hbl : Bytes8 (unL zs a) := hb.sub _ _
  rw [unErr, if_pos ⟨by omega, by omega⟩] at h
  have hu : unL zs a = zs.drop a := by rw [unL, Int.toNat_natCast, sub, List.take_of_length_le (by simp)]
  unfold unfE at h
  split at h
  · cases h
  · split at h
    · cases h
    · split at h
      · cases h
      · split at h
        · cases h
        · rename_i q1 q2 q3 q4
          have hf := (fr_iff hbl (by omega)).2 (by simpa using q4)
          have hx : unX zs a = sub (unL zs a) 4 (4 + unN (unL zs a)) := by rw [unX, if_pos h0]
          rw [h2, Int.toNat_natCast, hx, hf]
          refine ⟨by rw [sub_length _ _ _ (by omega)]; omega, ?_⟩
          rw [sub_take', hu, show 4 + unN (zs.drop a) + 4 = unN (zs.drop a) + 8 by omega, ← List.drop_drop, List.take_append_drop]
theorem rdL_of {zs : List Int} (hb : Bytes8 zs) : ∀ (n a : Nat) (acc K : List SKey), a ≤ zs.length → rdL zs n a acc = (0, K) → ∃ K2, K = acc ++ K2 ∧ K2.length = n ∧ okK acc K2 ∧ zs.drop a = K2.flatMap kB
  | 0, a, acc, K, ha, h => by
    rw [rdL] at h
    split at h
    · cases h
    · injection h with h1 h2
      exact ⟨[], by simp [h2], rfl, trivial, by rw [List.drop_eq_nil_of_le (by omega)]; rfl⟩
  | n + 1, a, acc, K, ha, h => by
    rw [rdL] at h
    split at h
    · rename_i h1; injection h with h2 h3; exact absurd h2 h1
    · rename_i h1
      have h1 : nmE zs a = 0 := Decidable.byContradiction h1
      split at h
      · cases h
      · rename_i h2
        split at h
        · rename_i h3; injection h with h4 h5; exact absurd h4 h3
        · rename_i h3
          have h3 : unErr zs (nmX zs a) = 0 := Decidable.byContradiction h3
          obtain ⟨u1, u2, u3⟩ := unErr_zero h3
          have hle : (unNext zs (nmX zs a)).toNat ≤ zs.length := by rw [u2]; omega
          obtain ⟨K2, e1, e2, e3, e4⟩ := rdL_of hb n _ _ K hle h
          obtain ⟨f1, f2⟩ := isNm_of hb h1
          obtain ⟨g1, g2⟩ := fr_of hb h3
          refine ⟨(nmT zs a, unX zs (nmX zs a)) :: K2, by rw [e1]; simp, by simp [e2], ⟨⟨f1, g1⟩, h2, e3⟩, ?_⟩
          rw [f2, g2, e4, List.flatMap_cons, kB]
          simp
/-- WHAT IS READ IS THE IMAGE of what it is read as. -/
theorem rd_of {zs : List Int} (hb : Bytes8 zs) {K : List SKey} (h : rdP zs = (0, K)) : K.length ≤ 2000 ∧ okK [] K ∧ zs = imgS K := by
  rw [rdP] at h
  split at h
  · cases h
  · rename_i h1
    split at h
    · cases h
    · rename_i h2
      split at h
      · cases h
      · rename_i h3
        obtain ⟨K2, e1, e2, e3, e4⟩ := rdL_of hb _ _ _ _ (by omega) h
        rw [List.nil_append] at e1
        subst e1
        refine ⟨by omega, e3, ?_⟩
        rw [List.take_of_length_le (by simp [mark4]; omega)] at h1
        have h1 : sub zs 0 4 = mark4 := Decidable.byContradiction h1
        have hn : hdN zs = K.length := e2.symm
        have h4 := hb _ (nth_mem (show 4 < zs.length by omega))
        have h5 := hb _ (nth_mem (show 5 < zs.length by omega))
        have e5 : zs = zs.take 4 ++ ([nth zs 4, nth zs 5] ++ zs.drop 6) := by
          conv => lhs; rw [← List.take_append_drop 4 zs]
          congr 1
          rw [List.drop_eq_getElem_cons (show 4 < zs.length by omega), List.drop_eq_getElem_cons (show 4 + 1 < zs.length by omega)]
          simp [nth, show 4 < zs.length by omega, show 5 < zs.length by omega]
        rw [e5, e4, ← sub_take', h1, imgS, headB, le2, ← List.append_assoc]
        congr 1
        rw [mark4]
        simp only [List.cons_append, List.nil_append, List.cons.injEq, true_and, and_true]
        rw [hdN] at hn
        omega

/-! May they be written? -/
theorem fnd_neg : ∀ (l : List ByteArray) (s : ByteArray) (i : Nat), (¬ 0 ≤ fnd l s i) ↔ ∀ x ∈ l, (x.toList == s.toList) = false
  | [], s, i => by simp [fnd]
  | x :: l, s, i => by
    rw [fnd]
    cases h : x.toList == s.toList with
    | true =>
      rw [if_pos rfl]
      constructor
      · intro hh; exact absurd (by omega) hh
      · intro hh; rw [hh x (by simp)] at h; cases h
    | false =>
      rw [if_neg (by simp), fnd_neg l s (i + 1)]
      constructor
      · intro hh y hy
        rcases List.mem_cons.1 hy with rfl | hy
        · exact h
        · exact hh y hy
      · intro hh y hy; exact hh y (List.mem_cons_of_mem _ hy)
theorem fnd_at : ∀ (l : List ByteArray) (j i : Nat) (h : j < l.length), fnd l l[j] i = ((i + j : Nat) : Int) ↔ ∀ x ∈ l.take j, (x.toList == l[j].toList) = false
  | x :: l, 0, i, h => by simp [fnd]
  | x :: l, j + 1, i, h => by
    have hj : j < l.length := by simpa using h
    simp only [List.getElem_cons_succ, List.take_succ_cons, List.mem_cons, forall_eq_or_imp]
    rw [fnd]
    cases hx : x.toList == l[j].toList with
    | true => simp; omega
    | false =>
      rw [if_neg (by simp), show i + (j + 1) = i + 1 + j by omega, fnd_at l j (i + 1) (by simpa using h)]
      simp
theorem okK_iff : ∀ (K acc : List SKey), okK acc K ↔ ∀ (i : Nat) (h : i < K.length), okS K[i] ∧ ¬ 0 ≤ fndK (acc ++ K.take i) K[i].1
  | [], acc => by simp [okK]
  | k :: K, acc => by
    rw [okK, okK_iff K (acc ++ [k])]
    constructor
    · rintro ⟨h1, h2, h3⟩ i hi
      cases i with
      | zero => exact ⟨h1, by simpa using h2⟩
      | succ i => have := h3 i (by simpa using hi); simpa using this
    · intro h
      refine ⟨(h 0 (by simp)).1, (by have := (h 0 (by simp)).2; simp only [List.take_zero, List.append_nil, List.getElem_cons_zero] at this; exact this), fun i hi => ?_⟩
      have := h (i + 1) (by simpa using hi); simpa using this
theorem dup_iff (l : List Sec) (i : Nat) (h : i < l.length) : dupI l i = false ↔ ¬ 0 ≤ fndK ((l.map keyS).take i) (atX l i).nm := by
  have h1 : (atX l i).nm = (l.map (·.nm))[i]'(by simpa using h) := by rw [atX_eq l i h]; simp
  have h2 := fnd_at (l.map (·.nm)) i 0 (by simpa using h)
  rw [← h1, Nat.zero_add] at h2
  rw [dupI, fndX, fndK, fnd_neg]
  have h3 : ((l.map keyS).take i).map (·.1) = (l.map (·.nm)).take i := by rw [← List.map_take, List.map_map, ← List.map_take]; rfl
  rw [h3, ← h2]
  simp
theorem may_iff (l : List Sec) : mayP l = 0 ↔ l.length ≤ 2000 ∧ okK [] (l.map keyS) := by
  rw [okK_iff]
  constructor
  · intro h
    obtain ⟨h1, h2, h3⟩ := may_zero h
    refine ⟨h2, fun i hi => ?_⟩
    have hi2 : i < l.length := by simpa using hi
    have g1 := upto_no hi2 h1
    have g2 := (dup_iff l i hi2).1 (upto_no hi2 h3)
    rw [badI, Bool.or_eq_false_iff] at g1
    rw [atX_eq l i hi2] at g1 g2
    simp only [List.getElem_map, List.nil_append]
    exact ⟨⟨show isNm l[i].nm = true by simpa using g1.1, show l[i].bs.length ≤ 1073741824 by simpa using g1.2⟩, g2⟩
  · rintro ⟨h1, h2⟩
    have b1 : upto l.length (badI l) = false := by
      cases hu : upto l.length (badI l) with
      | false => rfl
      | true =>
        simp only [upto, List.any_eq_true, List.mem_range] at hu
        obtain ⟨i, hi, hq⟩ := hu
        have := (h2 i (by simpa using hi)).1
        simp only [List.getElem_map] at this
        rw [badI, atX_eq l i hi] at hq
        have e1 : isNm l[i].nm = true := this.1
        have e2 : l[i].bs.length ≤ 1073741824 := this.2
        rw [e1, decide_eq_false (by omega)] at hq
        cases hq
    have b2 : upto l.length (dupI l) = false := by
      cases hu : upto l.length (dupI l) with
      | false => rfl
      | true =>
        simp only [upto, List.any_eq_true, List.mem_range] at hu
        obtain ⟨i, hi, hq⟩ := hu
        have := (h2 i (by simpa using hi)).2
        simp only [List.getElem_map, List.nil_append] at this
        rw [(dup_iff l i hi).2 (by rw [atX_eq l i hi]; exact this)] at hq
        cases hq
    rw [mayP, mayG, b1, b2]
    simp; omega
end Go.Proofs.Ytegnobdablbahaa
