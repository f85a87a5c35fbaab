/-
  Forward: what bytes are read as, plain laws.
-/
import Derived.Test.YtgdiffabnalidaaForG
import Derived.Test.YtgdiffabnalidaaLaw02C
namespace Go.Proofs.Ytgdiffabnalidaa
open Go.RowKit
set_option linter.unusedSimpArgs false
set_option linter.unusedVariables false

def frN (bs : List Int) : Nat := leN (sub bs 0 4)
def frM (bs : List Int) : Nat := leN (sub bs 4 8)
def frW (bs : List Int) : Nat := leN (sub bs 8 9)
def frB (bs : List Int) : List Int := sub bs 9 bs.length
/-- Do the numbers fit? -/
def frFit (bs : List Int) (rows many : Int) : Prop := (frN bs : Int) = rows ∧ (frM bs : Int) = many ∧ mayF (frN bs : Int) (frM bs : Int) ∧ frW bs = wdF (frM bs)
instance (bs : List Int) (rows many : Int) : Decidable (frFit bs rows many) := by unfold frFit; infer_instance
/-- Are all ids below many? -/
def frIds (bs : List Int) : Prop := ∀ i, i < frN bs → idG (frB bs) (frW bs) i < frM bs
instance (bs : List Int) : Decidable (frIds bs) := by unfold frIds; infer_instance
/-- What reading these bytes comes to. -/
def frE (bs : List Int) (rows many : Int) : Int :=
  if bs.length < 9 then 4 else if 16777216 < frN bs then 3 else if ¬ frFit bs rows many then 5
  else if bs.length - 9 < sizeN (frN bs) (frW bs) then 4 else if ¬ unpE (frB bs) (frN bs : Int) (frW bs : Int) = 0 then 5 else if frIds bs then 0 else 5
/-- The ids that are read. -/
def frL (bs : List Int) : List Int := unp (leN (frB bs)) (frW bs) (frN bs)
theorem frL_length (bs : List Int) : (frL bs).length = frN bs := unp_length _ _ _
theorem nth_frL (bs : List Int) (i : Nat) (h : i < frN bs) : nth (frL bs) i = ((idG (frB bs) (frW bs) i : Nat) : Int) := nth_unp _ _ _ _ h
theorem frB_length (bs : List Int) : (frB bs).length = bs.length - 9 := by
  unfold frB; rw [sub_length _ _ _ (Nat.le_refl _)]

/-- An index of memory of its own, at or beyond base. -/
def FXh (w : World) (base p : Nat) (l : List Int) (q : Nat) : Prop := base ≤ p ∧ ∃ ad cap, LowIdx w.heap.size w p l.length q (wdF q) ad cap (packs (wdF q) l) ∧ ∀ y, ad = some y → packs (wdF q) l ≠ [] → base ≤ y.block
theorem FXh.fx {w : World} {base p : Nat} {l : List Int} {q : Nat} (h : FXh w base p l q) : FX w p l q := let ⟨_, ad, cap, h1, _⟩ := h; ⟨ad, cap, h1⟩
theorem FXh.keepS {w w' : World} {base p : Nat} {l : List Int} {q : Nat} (h : FXh w base p l q) {S : List Nat} (k : Kp S w w') (hS : ∀ x, x ∈ S → x < base) : FXh w' base p l q := by
  obtain ⟨h0, ad, cap, ⟨⟨h1, h2⟩, h3, h4⟩, h5⟩ := h
  have hs := k.size
  exact ⟨h0, ad, cap, ⟨⟨k.get h1 (fun hm => by have := hS _ hm; omega), h2.keepne k (fun x hx hne hm => by have := hS _ hm; have := h5 x hx hne; omega)⟩, by omega, fun x hx hne => by have := h4 x hx hne; omega⟩, h5⟩
theorem FXh.keep {w w' : World} {base p : Nat} {l : List Int} {q : Nat} (h : FXh w base p l q) (k : Kp [] w w') : FXh w' base p l q := h.keepS k (by simp)
theorem FXh.mono {w : World} {base base' p : Nat} {l : List Int} {q : Nat} (h : FXh w base p l q) (hb : base' ≤ base) : FXh w base' p l q :=
  let ⟨h0, ad, cap, h1, h5⟩ := h; ⟨Nat.le_trans hb h0, ad, cap, h1, fun y hy hne => Nat.le_trans hb (h5 y hy hne)⟩
theorem ofPost_fxh {l : List Int} {m : Int} {w w' : World} {e : Ending} (hn : l.length ≤ 1000000) (h : OfPost l m w e w') :
    Kp [] w w' ∧ ((∃ p q, m = ((q : Nat) : Int) ∧ e = .returned (.tuple #[.pointer (some ⟨p, 0, none⟩), .int .i64 0]) ∧ IdsOk l q ∧ ofOk l m ∧ FXh w' w.heap.size p l q) ∨ (¬ ofOk l m ∧ e = .returned (.tuple #[.pointer none, .int .i64 2]))) := by
  obtain ⟨k, ⟨ho, p, ad, cap, rfl, hp, hc, hw⟩ | ⟨ho, rfl⟩⟩ := h
  · refine ⟨k, .inl ⟨p, m.toNat, by have := ofOk_m ho; omega, rfl, ⟨by have := ofOk_m ho; omega, hn, ?_, fun i hi => ?_⟩, ho, hp, ad, cap, ⟨⟨hc, hw.rd⟩, lt_of_heap hc, fun x hx hb => ?_⟩, fun x hx hb => ?_⟩⟩
    · rw [show ((m.toNat : Nat) : Int) = m by have := ofOk_m ho; omega]; exact ho.1
    · rw [show ((m.toNat : Nat) : Int) = m by have := ofOk_m ho; omega]; exact ho.2 i hi
    · rcases hw with ⟨-, h0⟩ | ⟨g, cur, rfl, -, h2, -⟩
      · exact absurd h0 hb
      · cases hx; exact lt_of_heap h2
    · rcases hw with ⟨-, h0⟩ | ⟨g, cur, rfl, h1, h2, -⟩
      · exact absurd h0 hb
      · cases hx; exact h1
  · exact ⟨k, .inr ⟨ho, rfl⟩⟩

/-- What was read may be. -/
theorem fr_ok {bs : List Int} {rows many : Int} (hb : Bytes8 bs) (hl : bs.length ≤ 100000) (h : frE bs rows many = 0) :
    frFit bs rows many ∧ unpE (frB bs) (frN bs : Int) (frW bs : Int) = 0 ∧ IdsOk (frL bs) (frM bs) ∧ packs (wdF (frM bs)) (frL bs) = frB bs := by
  unfold frE at h
  split at h
  · omega
  · split at h
    · omega
    · split at h
      · omega
      · rename_i h1 h2 h3
        have h3 : frFit bs rows many := by simpa using h3
        split at h
        · omega
        · split at h
          · omega
          · rename_i h4 h5
            have h5 : unpE (frB bs) (frN bs : Int) (frW bs : Int) = 0 := by simpa using h5
            split at h
            · rename_i h6
              have hm : frM bs ≤ 16777216 := by rcases h3.2.2.1 with h | h <;> omega
              have hw := wdF_rng (frM bs) hm
              obtain ⟨c, d, lu, hc, hd, h7, h8, h9, h10, h11, h12, h13, h14, -⟩ := only_law (frB bs) (frN bs) (frW bs) (hb.sub 9 bs.length) h5
              have hlu : lu = frL bs := by
                rw [h10]; unfold unpL; rw [if_pos h5]; simp [frL]
              subst hlu
              have hn : frN bs ≤ 1000000 := by
                have h15 := h5
                unfold unpE at h15
                split at h15
                · omega
                · split at h15
                  · omega
                  · split at h15
                    · omega
                    · rename_i q1 q2 q3
                      simp only [Int.toNat_natCast] at q2 q3
                      have h16 := sizeN_ge (frN bs) (frW bs)
                      have h17 : frN bs ≤ frN bs * frW bs := Nat.le_mul_of_pos_right _ (by rw [h3.2.2.2]; exact hw.1)
                      have h18 : ¬ sizeN (frN bs) (frW bs) < (frB bs).length := fun h => q3 (.inl h)
                      rw [frB_length] at h18 q2
                      omega
              have hok : IdsOk (frL bs) (frM bs) := ⟨hm, by rw [frL_length]; exact hn, by rw [frL_length]; exact h3.2.2.1, fun i hi => by
                rw [frL_length] at hi
                rw [nth_frL bs i hi]
                have := h6 i hi
                omega⟩
              refine ⟨h3, h5, hok, ?_⟩
              rw [← packL_ids hok, ← h3.2.2.2]
              exact h14
            · omega

section
variable {l : List Int} {q : Nat}
theorem wdF_byte (ho : IdsOk l q) : Bytes8 [(wdF q : Int)] := by intro z hz; simp at hz; have := ho.rng; omega
theorem imgF_bytes (ho : IdsOk l q) : Bytes8 (imgF l q) := bytes8_append (bytes8_append (bytes8_append (le_bytes _ _) (le_bytes _ _)) (wdF_byte ho)) (packs_bytes _ _)
theorem img_heads (ho : IdsOk l q) (r : List Int) : frN (imgF l q ++ r) = l.length ∧ frM (imgF l q ++ r) = q ∧ frW (imgF l q ++ r) = wdF q ∧ frB (imgF l q ++ r) = packs (wdF q) l ++ r := by
  have e : imgF l q ++ r = le l.length 4 ++ (le q 4 ++ ([(wdF q : Int)] ++ (packs (wdF q) l ++ r))) := by simp [imgF, bytesF]
  have h1 := ho.hn
  have h2 := ho.hq
  rw [e]
  refine ⟨?_, ?_, ?_, ?_⟩
  · unfold frN
    rw [show sub (le l.length 4 ++ (le q 4 ++ ([(wdF q : Int)] ++ (packs (wdF q) l ++ r)))) 0 4 = le l.length 4 from sub_mid [] (le l.length 4) _ 0 4 rfl (by simp [le_length]), leN_le 4 _ (by omega)]
  · unfold frM
    rw [sub_mid (le l.length 4) (le q 4) _ 4 8 (by simp [le_length]) (by simp [le_length]), leN_le 4 _ (by omega)]
  · unfold frW
    rw [← List.append_assoc, sub_mid (le l.length 4 ++ le q 4) [(wdF q : Int)] _ 8 9 (by simp [le_length]) (by simp)]
    simp [leN]
  · unfold frB sub
    rw [List.take_of_length_le (by simp), ← List.append_assoc, ← List.append_assoc]
    exact List.drop_left' (by simp [le_length])
theorem unpE_packs (ho : IdsOk l q) : unpE (packs (wdF q) l) (l.length : Nat) (wdF q : Nat) = 0 := by
  have hp : packE l (wdF q : Nat) = 0 := by
    unfold packE
    rw [if_pos]
    have h1 := ho.rng
    have h2 := ho.hn
    exact ⟨⟨by omega, by omega, by omega, by omega⟩, by simpa using ho.fit⟩
  have := (does_law l (wdF q : Nat) hp (ids_u64 ho)).1
  rwa [packL_ids ho] at this
/-- An index' bytes are read again. -/
theorem fr_img (ho : IdsOk l q) : frE (imgF l q) (l.length : Nat) (q : Nat) = 0 ∧ frL (imgF l q) = l ∧ frM (imgF l q) = q := by
  obtain ⟨h1, h2, h3, h4⟩ := img_heads ho []
  rw [List.append_nil] at h1 h2 h3 h4
  rw [List.append_nil] at h4
  have hL : frL (imgF l q) = l := by
    unfold frL
    rw [h4, h3, h1, leN_packs _ l ho.fit]
    exact unp_vn _ _ ho.fit
  refine ⟨?_, hL, h2⟩
  have hlen := imgF_length l q
  have hu := unpE_packs ho
  have hids : frIds (imgF l q) := by
    intro i hi
    rw [h1] at hi
    have := ho.ids i hi
    rw [h4, h3, h2]
    unfold idG
    rw [leN_packs _ l ho.fit, gets_vn _ l ho.fit i hi]
    omega
  have hfit : frFit (imgF l q) (l.length : Nat) (q : Nat) := ⟨by rw [h1], by rw [h2], by rw [h1, h2]; exact ho.may, by rw [h3, h2]⟩
  have hn := ho.hn
  unfold frE
  rw [if_neg (by omega), if_neg (by rw [h1]; omega), if_neg (by simpa using hfit), if_neg (by rw [h1, h3]; omega), if_neg (by rw [h4, h1, h3]; simpa using hu), if_pos hids]
theorem fr_other (ho : IdsOk l q) (rows many : Int) (h : ¬ (rows = (l.length : Nat) ∧ many = (q : Nat))) : frE (imgF l q) rows many = 5 := by
  obtain ⟨h1, h2, h3, h4⟩ := img_heads ho []
  rw [List.append_nil] at h1 h2 h3 h4
  have hlen := imgF_length l q
  have hn := ho.hn
  have hnf : ¬ frFit (imgF l q) rows many := fun hf => h ⟨by rw [← hf.1, h1], by rw [← hf.2.1, h2]⟩
  unfold frE
  rw [if_neg (by omega), if_neg (by rw [h1]; omega), if_pos hnf]
theorem fr_more (ho : IdsOk l q) : frE (imgF l q ++ [0]) (l.length : Nat) (q : Nat) = 5 := by
  obtain ⟨h1, h2, h3, h4⟩ := img_heads ho [0]
  have hlen := imgF_length l q
  have hn := ho.hn
  have hw := ho.rng
  have hfit : frFit (imgF l q ++ [0]) (l.length : Nat) (q : Nat) := ⟨by rw [h1], by rw [h2], by rw [h1, h2]; exact ho.may, by rw [h3, h2]⟩
  have hu : ¬ unpE (frB (imgF l q ++ [0])) (frN (imgF l q ++ [0]) : Int) (frW (imgF l q ++ [0]) : Int) = 0 := by
    rw [h4, h1, h3]
    unfold unpE
    rw [if_neg (by simp only [Classical.not_not]; exact ⟨by omega, by omega, by omega, by omega⟩)]
    simp only [Int.toNat_natCast, List.length_append, packs_length, List.length_cons, List.length_nil]
    rw [if_neg (by omega), if_pos (.inl (by omega))]
    omega
  unfold frE
  rw [List.length_append, if_neg (by omega), if_neg (by rw [h1]; omega), if_neg (by simpa using hfit), if_neg (by rw [h1, h3]; simp; omega), if_pos hu]
theorem fr_less (ho : IdsOk l q) : frE (sub (imgF l q) 0 ((imgF l q).length - 1)) (l.length : Nat) (q : Nat) = 4 := by
  have hlen := imgF_length l q
  have hsl : (sub (imgF l q) 0 ((imgF l q).length - 1)).length = (imgF l q).length - 1 := by rw [sub_length _ _ _ (by omega)]; omega
  by_cases h0 : sizeN l.length (wdF q) = 0
  · unfold frE
    rw [if_pos (by rw [hsl, hlen]; omega)]
  · obtain ⟨h1, h2, h3, h4⟩ := img_heads ho []
    rw [List.append_nil] at h1 h2 h3
    have hs : ∀ a b, b ≤ (imgF l q).length - 1 → sub (sub (imgF l q) 0 ((imgF l q).length - 1)) a b = sub (imgF l q) a b := fun a b hb => by
      simp only [sub, List.drop_zero, Nat.sub_zero]
      rw [List.drop_take, List.take_take, Nat.min_eq_left (by omega)]
    have hn := ho.hn
    have g1 : frN (sub (imgF l q) 0 ((imgF l q).length - 1)) = l.length := by rw [← h1]; unfold frN; rw [hs _ _ (by omega)]
    have g2 : frM (sub (imgF l q) 0 ((imgF l q).length - 1)) = q := by unfold frM at h2 ⊢; rw [hs _ _ (by omega)]; exact h2
    have g3 : frW (sub (imgF l q) 0 ((imgF l q).length - 1)) = wdF q := by rw [← h3]; unfold frW; rw [hs _ _ (by omega)]
    have hfit : frFit (sub (imgF l q) 0 ((imgF l q).length - 1)) (l.length : Nat) (q : Nat) := ⟨by rw [g1], by rw [g2], by rw [g1, g2]; exact ho.may, by rw [g3, g2]⟩
    unfold frE
    rw [if_neg (by rw [hsl]; omega), if_neg (by rw [g1]; omega), if_neg (by simpa using hfit), if_pos (by rw [hsl, g1, g3]; omega)]
end
end Go.Proofs.Ytgdiffabnalidaa
