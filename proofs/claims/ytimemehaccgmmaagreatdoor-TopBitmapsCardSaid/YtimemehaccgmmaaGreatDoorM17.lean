/-
  Parts of the walks and their plain laws (R7 R11 R12 R13 R14). No condition.
-/
import Derived.Test.YtimemehaccgmmaaGreatDoorM16
namespace Go.Proofs.YtimemehaccgmmaaGreatDoor
open Go.RowKit
set_option maxRecDepth 100000
set_option linter.unusedVariables false
set_option linter.unusedSimpArgs false
noncomputable section
abbrev fn := fN .i64
theorem flat_take_one {α β : Type} {g : α → List β} {l : List α} {k : Nat} (h : k < l.length) : (l.take (k + 1)).flatMap g = (l.take k).flatMap g ++ g l[k] := by
  rw [← List.take_append_getElem h, List.flatMap_append]; simp
theorem flat_pre_le {α β : Type} {g : α → List β} (l : List α) (k : Nat) : ((l.take k).flatMap g).length ≤ (l.flatMap g).length := by
  conv => rhs; rw [← List.take_append_drop k l, List.flatMap_append, List.length_append]
  omega
theorem rng_len (x : Nat × Nat) : (rng x).length = x.2 + 1 := by simp [rng]
section
variable {J : List (World → Prop)} {H : List RC} {p q : Nat → Bool} {ad ad2 : Option Addr} {cap cap2 : Nat}
theorem cEnd {a m : Nat} (h : a + m < 65536 := by omega) : Tr TP 290 [.agg #[.int .u16 a, .int .u16 m]] (Ctx J H) (fun _ : Unit => .int .i64 ((a + m + 1 : Nat) : Int)) (fun _ => True) (fun _ => Ctx J H) := by
  refine en0 Tryz.func290 rfl rfl rfl (go ?_)
  intro b
  exact rt () trivial rfl (fun _ h => h.rest)
theorem cRLen (hJ : Ent J (Rs fR 2 ad cap (rn p)) := by exact jA) (hp : P60 p) : Tr TP 237 [.slice ad (rn p).length cap] (Ctx J H) (fun _ : Unit => .int .i64 (fl p 64).length) (fun _ => True) (fun _ => Ctx J H) := by
  have hl := fl_len (g := p) (n := 64)
  have hr := rn_len hp
  refine en0 Tryz.func237 rfl rfl rfl (addJ hJ (go ?_))
  refine lp (X := Nat) (fun k => k ≤ (rn p).length) (fun k => [(3, .int .i64 (((rn p).take k).flatMap rng).length), (6, .slice ad (rn p).length cap), (7, .int .i64 (rn p).length), (8, .int .i64 k)]) (fun k => Ctx (Rs fR 2 ad cap (rn p) :: J) H) (fun k => (rn p).length - k) 0 (by simp) (by simp) (fun _ h => h) fun k hk => ?_
  refine go ?_
  refine ⟨fun h => ?_, fun h => ?_⟩
  · have hk1 : k < (rn p).length := by omega
    have ha := rn_at hk1
    have hf := flat_take_one (g := rng) hk1
    have hf2 := flat_pre_le (g := rng) (rn p) (k + 1)
    rw [rn_fl hp] at hf2
    have hf3 : ((((rn p).take (k + 1)).flatMap rng).length : Int) = (((rn p).take k).flatMap rng).length + ((rn p)[k].2 + 1) := by rw [hf, List.length_append, rng_len]; omega
    refine go ?_
    intro b
    rw [← hf3]
    exact en (k + 1) (by omega) (by simp) (fun _ h => h.rest)
  · obtain rfl : k = (rn p).length := by omega
    refine go ?_
    rw [List.take_length, rn_fl hp]
    exact rt () trivial rfl (fun _ h => h.ent fun _ j => j.2)
theorem cRRank {x : Nat} (hlt : ∀ y, p y = true → y < x) (hx2 : x ≤ 64) (hJ : Ent J (Rs fR 2 ad cap (rn p)) := by exact jA) (hp : P60 p) : Tr TP 327 [.slice ad (rn p).length cap, .int .i64 x] (Ctx J H) (fun _ : Unit => .int .i64 (fl p 64).length) (fun _ => True) (fun _ => Ctx J H) := by
  have hl := fl_len (g := p) (n := 64)
  have hr := rn_len hp
  refine en0 Tryz.func327 rfl rfl rfl (addJ hJ (go ?_))
  refine lp (X := Nat) (fun k => k ≤ (rn p).length) (fun k => [(1, .int .i64 x), (5, .int .i64 (((rn p).take k).flatMap rng).length), (8, .slice ad (rn p).length cap), (9, .int .i64 (rn p).length), (10, .int .i64 k)]) (fun k => Ctx (Rs fR 2 ad cap (rn p) :: J) H) (fun k => (rn p).length - k) 0 (by simp) (by simp) (fun _ h => h) fun k hk => ?_
  refine go ?_
  refine ⟨fun h => ?_, fun h => ?_⟩
  · have hk1 : k < (rn p).length := by omega
    have ha := rn_at hk1
    have hf := flat_take_one (g := rng) hk1
    have hf2 := flat_pre_le (g := rng) (rn p) (k + 1)
    have hlast : (rn p)[k].1 + (rn p)[k].2 < x := by
      have : (rn p)[k].1 + (rn p)[k].2 ∈ fl p 64 := by
        rw [← rn_fl hp]
        exact List.mem_flatMap.2 ⟨_, List.getElem_mem hk1, by simp only [rng, List.mem_range'_1]; omega⟩
      exact hlt _ (mem_fl.1 this).2
    rw [rn_fl hp] at hf2
    have hf3 : ((((rn p).take (k + 1)).flatMap rng).length : Int) = (((rn p).take k).flatMap rng).length + ((rn p)[k].2 + 1) := by rw [hf, List.length_append, rng_len]; omega
    refine go ?_
    intro b
    rw [if_neg (show ¬ ((x : Int) - (rn p)[k].1 < 0) by omega), show (if ((rn p)[k].2 : Int) + 1 < (x : Int) - (rn p)[k].1 then ((rn p)[k].2 : Int) + 1 else (x : Int) - (rn p)[k].1) = ((rn p)[k].2 : Int) + 1 by split <;> omega]
    refine go ?_
    rw [← hf3]
    exact en (k + 1) (by omega) (by simp) (fun _ h => h.rest)
  · obtain rfl : k = (rn p).length := by omega
    refine go ?_
    rw [List.take_length, rn_fl hp]
    exact rt () trivial rfl (fun _ h => h.ent fun _ j => j.2)
theorem cRList (hJ : Ent J (Rs fR 2 ad cap (rn p)) := by exact jA) (hp : P60 p) :
    Tr TP 244 [.slice ad (rn p).length cap] (Ctx J H) (fun r : Q2 => .slice r.1 (fl p 64).length r.2) (fun _ => True) (fun r => Ctx J (sl fh 1 152 r.1 r.2 (fl p 64) :: H)) := by
  have hl := fl_len (g := p) (n := 64)
  have hr := rn_len hp
  refine en0 Tryz.func244 rfl rfl rfl (addJ hJ (go ?_))
  refine nwS fh 1 152 none ?_
  refine lp (X := Nat × Q2) (fun x => x.1 ≤ (rn p).length) (fun (k, r) => [(3, .slice r.1 (((rn p).take k).flatMap rng).length r.2), (7, .slice ad (rn p).length cap), (8, .int .i64 (rn p).length), (9, .int .i64 k)]) (fun (k, r) => Ctx (Rs fR 2 ad cap (rn p) :: J) (sl fh 1 152 r.1 r.2 (((rn p).take k).flatMap rng) :: H)) (fun x => (rn p).length - x.1) (0, none, 0) (by simp) (by simp) (fun _ h => h) fun ⟨k, r⟩ hk => ?_
  dsimp only at hk
  dsimp only
  refine go ?_
  refine ⟨fun h => ?_, fun h => ?_⟩
  · have hk1 : k < (rn p).length := by omega
    have ha := rn_at hk1
    have hf := flat_take_one (g := rng) hk1
    have hf2 := flat_pre_le (g := rng) (rn p) (k + 1)
    rw [rn_fl hp, hf, List.length_append, rng_len] at hf2
    refine go ?_
    intro b
    refine lp (X := Nat × Q2) (fun x => x.1 ≤ (rn p)[k].2 + 1) (fun (i, r) => [(3, .slice r.1 (((rn p).take k).flatMap rng ++ List.range' (rn p)[k].1 i).length r.2), (5, pb b), (6, .int .i64 ((rn p)[k].1 + i : Nat)), (7, .slice ad (rn p).length cap), (8, .int .i64 (rn p).length), (9, .int .i64 k)]) (fun (i, r) => Ctx (Rs fR 2 ad cap (rn p) :: J) (pt b 297 [.int .u16 ((rn p)[k].1 : Nat), .int .u16 ((rn p)[k].2 : Nat)] :: sl fh 1 152 r.1 r.2 (((rn p).take k).flatMap rng ++ List.range' (rn p)[k].1 i) :: H)) (fun x => (rn p)[k].2 + 1 - x.1) (0, r) (by simp) (by simp) (fun _ h => by simpa using h) fun ⟨i, r⟩ hi => ?_
    dsimp only at hi
    dsimp only
    have hln : (((rn p).take k).flatMap rng ++ List.range' (rn p)[k].1 i).length ≤ 64 := by rw [List.length_append, List.length_range']; omega
    refine go ?_
    refine cg cEnd fun _ _ => ?_
    rw [if_neg (by omega)]
    refine ⟨fun h1 => ?_, fun h1 => ?_⟩
    · refine go ?_
      intro c r2
      have e7 : ((rn p).take k).flatMap rng ++ List.range' (rn p)[k].1 i ++ [(rn p)[k].1 + i] = ((rn p).take k).flatMap rng ++ List.range' (rn p)[k].1 (i + 1) := by rw [List.append_assoc, List.range'_concat, Nat.one_mul]
      rw [e7]
      exact en (i + 1, r2) (by dsimp only; omega) (by simp; omega) (fun _ h => h)
    · have e9 : i = (rn p)[k].2 + 1 := by omega
      have e8 : ((rn p).take k).flatMap rng ++ List.range' (rn p)[k].1 i = ((rn p).take (k + 1)).flatMap rng := by rw [hf, e9]; rfl
      rw [e8]
      refine go ?_
      exact en (k + 1, r) (by dsimp only; omega) (by simp) (fun _ h => h.rest)
  · obtain rfl : k = (rn p).length := by omega
    refine go ?_
    rw [List.take_length, rn_fl hp]
    exact rt r trivial rfl (fun _ h => h.ent fun _ j => j.2)
theorem cRow (hJ : Ent J (Rs fR 2 ad cap (rn p)) := by exact jA) (hp : P60 p) :
    Tr TP 320 [.slice ad (rn p).length cap] (Ctx J H) (fun r : Q2 => .slice r.1 (fl (chg p) 64).length r.2) (fun _ => True) (fun r => Ctx J (sl fn 1 3 r.1 r.2 (fl (chg p) 64) :: H)) := by
  have hl := fl_len (g := chg p) (n := 64)
  have hr := rn_len hp
  refine en0 Tryz.func320 rfl rfl rfl (addJ hJ (go ?_))
  refine nwS fn 1 3 none ?_
  refine lp (X := Nat × Q2) (fun x => x.1 ≤ (rn p).length) (fun (k, r) => [(3, .slice r.1 (((rn p).take k).flatMap ends).length r.2), (6, .slice ad (rn p).length cap), (7, .int .i64 (rn p).length), (8, .int .i64 k)]) (fun (k, r) => Ctx (Rs fR 2 ad cap (rn p) :: J) (sl fn 1 3 r.1 r.2 (((rn p).take k).flatMap ends) :: H)) (fun x => (rn p).length - x.1) (0, none, 0) (by simp) (by simp) (fun _ h => h) fun ⟨k, r⟩ hk => ?_
  dsimp only at hk
  dsimp only
  refine go ?_
  refine ⟨fun h => ?_, fun h => ?_⟩
  · have hk1 : k < (rn p).length := by omega
    have ha := rn_at hk1
    have hf := flat_take_one (g := ends) hk1
    have hf2 := flat_pre_le (g := ends) (rn p) (k + 1)
    rw [rn_row hp, hf, List.length_append] at hf2
    refine go ?_
    intro b
    refine cg cEnd fun _ _ c => ?_
    refine preD (fun w h => (Ctx.p2s (f := fn) (xs := [(rn p)[k].1, (rn p)[k].1 + (rn p)[k].2 + 1]) rfl (by simp) h).fzS) (frd 1 rfl ?_)
    refine dpJ (ys := [(rn p)[k].1, (rn p)[k].1 + (rn p)[k].2 + 1]) je0 (by show _ + 2 ≤ _; omega) (fun r2 => ?_)
    rw [show ((rn p).take k).flatMap ends ++ [(rn p)[k].1, (rn p)[k].1 + (rn p)[k].2 + 1] = ((rn p).take (k + 1)).flatMap ends from hf.symm]
    refine go ?_
    exact en (k + 1, r2) (by dsimp only; omega) (by simp [bind1, -List.length_flatMap]) (fun _ h => (h.drp 1).ent fun _ j => j.2)
  · obtain rfl : k = (rn p).length := by omega
    refine go ?_
    rw [List.take_length, rn_row hp]
    exact rt r trivial rfl (fun _ h => h.ent fun _ j => j.2)
end
end
end Go.Proofs.YtimemehaccgmmaaGreatDoor
namespace Go.Proofs.YtimemehaccgmmaaGreatDoor
open Go.RowKit
set_option maxRecDepth 100000
set_option linter.unusedVariables false
set_option linter.unusedSimpArgs false
noncomputable section
section
variable {J : List (World → Prop)} {H : List RC} {p q g : Nat → Bool} {ad ad2 : Option Addr} {cap cap2 : Nat}
theorem cNan {x : Int} : Tr TP 363 [.int .u16 x] (Ctx J H) (fun _ : Unit => .bool false) (fun _ => True) (fun _ => Ctx J H) := by
  refine en0 Tryz.func363 rfl rfl rfl (go ?_)
  rw [show decide (x ≠ x) = false by simp]
  exact rt () trivial rfl (fun _ h => h)
theorem cNan2 {x : Int} : Tr TP 364 [.int .u16 x] (Ctx J H) (fun _ : Unit => .bool false) (fun _ => True) (fun _ => Ctx J H) := by
  refine en0 Tryz.func364 rfl rfl rfl (go ?_)
  rw [show decide (x ≠ x) = false by simp]
  exact rt () trivial rfl (fun _ h => h)
theorem cLess {x y : Int} : Tr TP 350 [.int .u16 x, .int .u16 y] (Ctx J H) (fun _ : Unit => .bool (decide (x < y))) (fun _ => True) (fun _ => Ctx J H) := by
  refine en0 Tryz.func350 rfl rfl rfl (go ?_)
  refine cg cNan fun _ _ => ?_
  exact rt () trivial rfl (fun _ h => h)
theorem fl_idx {t i : Nat} (ht : t ≤ 64) (hi : i < (fl g 64).length) : (fl g 64)[i] < t ↔ i < (fl g t).length := by
  obtain ⟨l, hl⟩ := fl_pre (g := g) ht
  constructor
  · intro h
    apply Nat.lt_of_not_le; intro hh
    have h1 : (fl g 64)[(fl g t).length]'(by omega) ≤ (fl g 64)[i] := by
      rcases Nat.lt_or_eq_of_le hh with h2 | h2
      · exact Nat.le_of_lt (List.pairwise_iff_getElem.1 (fl_pw (g := g) (n := 64)) _ _ (by omega) hi h2)
      · simp only [h2, Nat.le_refl]
    have := (fl_next (g := g) ht (by omega)).1
    omega
  · intro h
    have : (fl g 64)[i] = (fl g t)[i] := by simp only [hl]; rw [List.getElem_append_left h]
    rw [this]
    exact (mem_fl.1 (List.getElem_mem h)).1
theorem fl_hit {t : Nat} (ht : t < 64) : (g t = true → ∃ h : (fl g t).length < (fl g 64).length, (fl g 64)[(fl g t).length] = t) ∧ (g t = false → ∀ h : (fl g t).length < (fl g 64).length, (fl g 64)[(fl g t).length] ≠ t) := by
  constructor
  · intro hg
    have h1 := fl_t hg
    have h2 := fl_lenle (g := g) (show t + 1 ≤ 64 by omega)
    rw [h1, List.length_append, List.length_singleton] at h2
    refine ⟨by omega, ?_⟩
    obtain ⟨a1, a2, a3, a4⟩ := fl_next (g := g) (show t ≤ 64 by omega) (by omega)
    apply Nat.le_antisymm _ a1
    apply Nat.le_of_not_lt; intro hh
    rw [a4 t (Nat.le_refl _) hh] at hg; cases hg
  · intro hg h he
    have := (fl_next (g := g) (show t ≤ 64 by omega) h).2.2.1
    rw [he, hg] at this; cases this
set_option maxHeartbeats 1000000 in
theorem cBS {t : Nat} (ht : t < 64) (hJ : Ent J (Rs fh 1 ad cap (fl g 64)) := by exact jA) :
    Tr TP 353 [.slice ad (fl g 64).length cap, .int .u16 t] (Ctx J H) (fun _ : Unit => .tuple #[.int .i64 (fl g t).length, .bool (g t)]) (fun _ => True) (fun _ => Ctx J H) := by
  have hl := fl_len (g := g) (n := 64)
  have hlt := fl_lenle (g := g) (show t ≤ 64 by omega)
  refine en0 Tryz.func353 rfl rfl rfl (addJ hJ (go ?_))
  refine lp (X := Nat × Nat) (fun x => x.1 ≤ (fl g t).length ∧ (fl g t).length ≤ x.2 ∧ x.2 ≤ (fl g 64).length) (fun (i, j) => [(0, .slice ad (fl g 64).length cap), (1, .int .u16 t), (6, .int .i64 (fl g 64).length), (7, .int .i64 i), (8, .int .i64 j)]) (fun _ => Ctx (Rs fh 1 ad cap (fl g 64) :: J) H) (fun x => x.2 - x.1) (0, (fl g 64).length) ⟨by simp, by dsimp only; omega, by simp⟩ rfl (fun _ h => h) fun ⟨i, j⟩ ⟨h1, h2, h3⟩ => ?_
  dsimp only at h1 h2 h3
  refine go ?_
  refine ⟨fun h => ?_, fun h => ?_⟩
  · have e : ((i : Int) + j) / 2 ^ min 1 IntKind.u64.bits = (((i + j) / 2 : Nat) : Int) := by rw [show min 1 IntKind.u64.bits = 1 from rfl]; omega
    have hh : (i + j) / 2 < (fl g 64).length := by omega
    have hk := fl_idx (g := g) (show t ≤ 64 by omega) hh
    refine go ?_
    rw [e]
    rw [IntWalk.i64_in ((((i + j) / 2 : Nat)) : Int) (by omega)]
    refine go ?_
    refine cg cLess fun _ _ => ?_
    refine br (fun h9 => ?_) fun h9 => ?_
    · have := hk.1 (by omega)
      exact en ((i + j) / 2 + 1, j) ⟨⟨by dsimp only; omega, h2, h3⟩, by dsimp only; omega⟩ rfl (fun _ h => h)
    · have : ¬ (i + j) / 2 < (fl g t).length := fun h8 => h9 (by have := hk.2 h8; omega)
      exact en (i, (i + j) / 2) ⟨⟨h1, by dsimp only; omega, by dsimp only; omega⟩, by dsimp only; omega⟩ rfl (fun _ h => h)
  · obtain rfl : i = (fl g t).length := by omega
    obtain ⟨k1, k2⟩ := fl_hit (g := g) ht
    by_cases hlt2 : (fl g t).length < (fl g 64).length
    · refine go ?_
      rw [show decide (((fl g t).length : Int) < ((fl g 64).length : Int)) = true from decide_eq_true (by omega)]
      refine ⟨fun h8 => ?_, fun h8 => ?_⟩
      · have e9 : g t = true := by
          cases hg : g t with
          | true => rfl
          | false => exact absurd (by omega) (k2 hg hlt2)
        rw [e9]
        refine go ?_
        exact rt () trivial rfl (fun _ h => h.ent fun _ j => j.2)
      · have e9 : g t = false := by
          cases hg : g t with
          | false => rfl
          | true => exact absurd (by have := (k1 hg).2; omega) h8
        rw [e9]
        refine go ?_
        refine cg cNan2 fun _ _ => ?_
        exact rt () trivial rfl (fun _ h => h.ent fun _ j => j.2)
    · have hgf : g t = false := by
        cases hg : g t with
        | false => rfl
        | true => exact absurd (k1 hg).1 hlt2
      rw [hgf]
      refine go ?_
      rw [show decide (((fl g t).length : Int) < ((fl g 64).length : Int)) = false from decide_eq_false (by omega)]
      refine go ?_
      exact rt () trivial rfl (fun _ h => h.ent fun _ j => j.2)
theorem cAFind {t : Nat} (ht : t < 64) (hJ : Ent J (Rs fh 1 ad cap (fl g 64)) := by exact jA) :
    Tr TP 325 [.slice ad (fl g 64).length cap, .int .u16 t] (Ctx J H) (fun _ : Unit => .tuple #[.int .i64 (fl g t).length, .bool (g t)]) (fun _ => True) (fun _ => Ctx J H) := by
  refine en0 Tryz.func325 rfl rfl rfl (go ?_)
  refine cg (cBS ht hJ) fun _ _ => ?_
  exact rt () trivial rfl (fun _ h => h)
theorem cCmpR {a m : Nat} {t : Nat} (ha : a < 65536) (ht : t < 65536) : Tr TP 366 [.agg #[.int .u16 a, .int .u16 m], .int .u16 t] (Ctx J H) (fun _ : Unit => .int .i64 ((a : Int) - t)) (fun _ => True) (fun _ => Ctx J H) := by
  refine en0 Tryz.func366 rfl rfl rfl (go ?_)
  intro b
  exact rt () trivial rfl (fun _ h => h.rest)
set_option maxHeartbeats 1000000 in
theorem cBSF {t I : Nat} (ht : t < 64) (hp : P60 p) (hI : I ≤ (rn p).length) (hlt : ∀ h (hh : h < (rn p).length), (rn p)[h].1 < t ↔ h < I) (hJ : Ent J (Rs fR 2 ad cap (rn p)) := by exact jA) :
    Tr TP 365 [.slice ad (rn p).length cap, .int .u16 t, .func (.func 366) #[] #[]] (Ctx J H) (fun _ : Unit => .tuple #[.int .i64 I, .bool (decide (∃ h : I < (rn p).length, (rn p)[I].1 = t))]) (fun _ => True) (fun _ => Ctx J H) := by
  have hl := rn_len hp
  refine en0 Tryz.func365 rfl rfl rfl (addJ hJ (go ?_))
  refine lp (X := Nat × Nat) (fun x => x.1 ≤ I ∧ I ≤ x.2 ∧ x.2 ≤ (rn p).length) (fun (i, j) => [(0, .slice ad (rn p).length cap), (1, .int .u16 t), (2, .func (.func 366) #[] #[]), (8, .int .i64 (rn p).length), (9, .int .i64 i), (10, .int .i64 j)]) (fun _ => Ctx (Rs fR 2 ad cap (rn p) :: J) H) (fun x => x.2 - x.1) (0, (rn p).length) ⟨by simp, by dsimp only; omega, by simp⟩ rfl (fun _ h => h) fun ⟨i, j⟩ ⟨h1, h2, h3⟩ => ?_
  dsimp only at h1 h2 h3
  refine go ?_
  refine ⟨fun h => ?_, fun h => ?_⟩
  · have e : ((i : Int) + j) / 2 ^ min 1 IntKind.u64.bits = (((i + j) / 2 : Nat) : Int) := by rw [show min 1 IntKind.u64.bits = 1 from rfl]; omega
    have hh : (i + j) / 2 < (rn p).length := by omega
    have hk := hlt _ hh
    have ha := rn_at hh
    refine go ?_
    rw [e]
    rw [IntWalk.i64_in ((((i + j) / 2 : Nat)) : Int) (by omega)]
    refine go ?_
    refine cg (cCmpR (by omega) (by omega)) fun _ _ => ?_
    refine br (fun h9 => ?_) fun h9 => ?_
    · have := hk.1 (by omega)
      exact en ((i + j) / 2 + 1, j) ⟨⟨by dsimp only; omega, h2, h3⟩, by dsimp only; omega⟩ rfl (fun _ h => h)
    · have : ¬ (i + j) / 2 < I := fun h8 => h9 (by have := hk.2 h8; omega)
      exact en (i, (i + j) / 2) ⟨⟨h1, by dsimp only; omega, by dsimp only; omega⟩, by dsimp only; omega⟩ rfl (fun _ h => h)
  · obtain rfl : i = I := by omega
    by_cases hl2 : i < (rn p).length
    · have ha := rn_at hl2
      refine go ?_
      rw [show decide ((i : Int) < ((rn p).length : Int)) = true from decide_eq_true (by omega)]
      refine cg (cCmpR (by omega) (by omega)) fun _ _ => ?_
      rw [show decide (((rn p)[i].1 : Int) - t = 0) = decide (∃ h : i < (rn p).length, (rn p)[i].1 = t) from decide_eq_decide.2 ⟨fun h => ⟨hl2, by omega⟩, fun ⟨h, h2⟩ => by omega⟩]
      exact rt () trivial rfl (fun _ h => h.ent fun _ j => j.2)
    · refine go ?_
      rw [show decide ((i : Int) < ((rn p).length : Int)) = false from decide_eq_false (by omega)]
      refine go ?_
      rw [show decide (∃ h : i < (rn p).length, (rn p)[i].1 = t) = false from decide_eq_false fun ⟨h, _⟩ => hl2 h]
      exact rt () trivial rfl (fun _ h => h.ent fun _ j => j.2)
/-- Which run a number lies in. -/
theorem rn_mem (hp : P60 p) {x : Nat} (hx0 : p x = true) : ∃ k, ∃ h : k < (rn p).length, (rn p)[k].1 ≤ x ∧ x ≤ (rn p)[k].1 + (rn p)[k].2 := by
  have h1 : x ∈ fl p 64 := mem_fl.2 ⟨Nat.lt_of_not_le (fun hh => by rw [hp x (by omega)] at hx0; cases hx0), hx0⟩
  rw [← rn_fl hp] at h1
  obtain ⟨r, hr, hm⟩ := List.mem_flatMap.1 h1
  obtain ⟨k, hk, rfl⟩ := List.mem_iff_getElem.1 hr
  simp only [rng, List.mem_range'_1] at hm
  exact ⟨k, hk, by omega⟩
theorem cRHas {x : Nat} (hp : P60 p) (hx0 : p x = true) (hJ : Ent J (Rs fR 2 ad cap (rn p)) := by exact jA) :
    Tr TP 358 [.slice ad (rn p).length cap, .int .u16 x] (Ctx J H) (fun _ : Unit => .bool true) (fun _ => True) (fun _ => Ctx J H) := by
  have hl := rn_len hp
  have hx1 : x < 60 := Nat.lt_of_not_le fun hh => by rw [hp x hh] at hx0; cases hx0
  obtain ⟨k, hk, k1, k2⟩ := rn_mem hp hx0
  have hord : ∀ h (hh : h < (rn p).length), (h < k → (rn p)[h].1 < (rn p)[k].1) ∧ (k < h → x < (rn p)[h].1) := fun h hh => by
    refine ⟨fun hlt => ?_, fun hlt => ?_⟩
    · have := (okR_at hh (rn_ok (p := p)).1).2.2 k hk hlt; omega
    · have := (okR_at hk (rn_ok (p := p)).1).2.2 h hh hlt; omega
  have ha := rn_at hk
  refine en0 Tryz.func358 rfl rfl rfl (addJ hJ (go ?_))
  by_cases he : (rn p)[k].1 = x
  · refine ca (cBSF (I := k) (by omega) hp (by omega) fun h hh => ?_) fun _ _ => ?_
    · have h0 := hord h hh
      rcases Nat.lt_trichotomy h k with h5 | h5 | h5
      · have := h0.1 h5; omega
      · subst h5; omega
      · have := h0.2 h5; omega
    · rw [show decide (∃ h : k < (rn p).length, (rn p)[k].1 = x) = true from decide_eq_true ⟨hk, he⟩]
      refine go ?_
      exact rt () trivial rfl (fun _ h => h.ent fun _ j => j.2)
  · refine ca (cBSF (I := k + 1) (by omega) hp (by omega) fun h hh => ?_) fun _ _ => ?_
    · have h0 := hord h hh
      rcases Nat.lt_trichotomy h k with h5 | h5 | h5
      · have := h0.1 h5; omega
      · subst h5; omega
      · have := h0.2 h5; omega
    · rw [show decide (∃ h : k + 1 < (rn p).length, (rn p)[k + 1].1 = x) = false from decide_eq_false fun ⟨h, h2⟩ => by have := (hord (k + 1) h).2 (by omega); omega]
      refine go ?_
      refine gbt ?_
      rw [show ((k + 1 : Nat) : Int) - 1 = (k : Nat) by omega]
      refine go ?_
      refine ca (cEnd (by omega)) fun _ _ => ?_
      refine go ?_
      rw [show decide ((x : Int) < (((rn p)[k].1 + (rn p)[k].2 + 1 : Nat) : Int)) = true from decide_eq_true (by omega)]
      exact rt () trivial rfl (fun _ h => h.ent fun _ j => j.2)
end
end
end Go.Proofs.YtimemehaccgmmaaGreatDoor
namespace Go.Proofs.YtimemehaccgmmaaGreatDoor
open Go.RowKit
set_option maxRecDepth 100000
set_option linter.unusedVariables false
set_option linter.unusedSimpArgs false
noncomputable section
theorem cloneH : CloneT 190 fh 1 152 := fun hJ hb => clone hJ hb
theorem cloneR : CloneT 238 fR 2 297 := fun hJ hb => clone hJ hb
theorem cloneW : CloneT 240 fw 1 111 := fun hJ hb => clone hJ hb
theorem okR_take : ∀ {l : List (Nat × Nat)} {e k : Nat} (hk : k < l.length), okR l e → endR (l.take k) e ≤ l[k].1
  | x :: l, e, 0, hk, h => h.1
  | x :: l, e, k + 1, hk, h => okR_take (l := l) (k := k) (by simpa using hk) h.2
theorem endR_take {l : List (Nat × Nat)} {e k : Nat} (hk : k < l.length) : endR (l.take (k + 1)) e = l[k].1 + l[k].2 + 2 := by
  rw [← List.take_append_getElem hk, endR_app]
section
variable {J : List (World → Prop)} {H : List RC} {p q g : Nat → Bool} {ad ad2 : Option Addr} {cap cap2 : Nat}
theorem cRMay (hp : P60 p) (hJ : Ent J (Rs fR 2 ad cap (rn p)) := by exact jA) : Tr TP 355 [.slice ad (rn p).length cap] (Ctx J H) (fun _ : Unit => .bool true) (fun _ => True) (fun _ => Ctx J H) := by
  have hl := rn_len hp
  refine en0 Tryz.func355 rfl rfl rfl (addJ hJ (go ?_))
  refine lp (X := Nat) (fun k => k ≤ (rn p).length) (fun k => [(3, .int .i64 (endR ((rn p).take k) 0 : Nat)), (6, .slice ad (rn p).length cap), (7, .int .i64 (rn p).length), (8, .int .i64 k)]) (fun k => Ctx (Rs fR 2 ad cap (rn p) :: J) H) (fun k => (rn p).length - k) 0 (by simp) (by simp [endR]) (fun _ h => h) fun k hk => ?_
  refine go ?_
  refine ⟨fun h => ?_, fun h => ?_⟩
  · have hk1 : k < (rn p).length := by omega
    have ha := rn_at hk1
    have h1 := okR_take hk1 (rn_ok (p := p)).1
    have h2 := endR_take (e := 0) hk1
    refine go ?_
    intro b
    refine ⟨fun h8 => by exfalso; omega, fun h8 => go ?_⟩
    refine cg (cEnd (by omega)) fun _ _ => ?_
    refine cg (cEnd (by omega)) fun _ _ => ?_
    exact en (k + 1) (by omega) (by simp [h2]; omega) (fun _ h => h.rest)
  · refine go ?_
    exact rt () trivial rfl (fun _ h => h.ent fun _ j => j.2)
theorem cRMay6 (hp : P60 p) (hJ : Ent J (Rs fR 2 ad cap (rn p)) := by exact jA) : Tr TP 185 [.slice ad (rn p).length cap] (Ctx J H) (fun _ : Unit => .bool true) (fun _ => True) (fun _ => Ctx J H) := by
  have hl := rn_len hp
  refine en0 Tryz.func185 rfl rfl rfl (addJ hJ (go ?_))
  refine lp (X := Nat) (fun k => k ≤ (rn p).length) (fun k => [(0, .slice ad (rn p).length cap), (3, .int .i64 (endR ((rn p).take k) 0 : Nat)), (4, .int .i64 k)]) (fun k => Ctx (Rs fR 2 ad cap (rn p) :: J) H) (fun k => (rn p).length - k) 0 (by simp) (by simp [endR]) (fun _ h => h) fun k hk => ?_
  refine go ?_
  refine ⟨fun h => ?_, fun h => ?_⟩
  · have hk1 : k < (rn p).length := by omega
    have ha := rn_at hk1
    have h1 := okR_take hk1 (rn_ok (p := p)).1
    have h2 := endR_take (e := 0) hk1
    refine go ?_
    exact en (k + 1) (by omega) (by simp [h2])
  · refine go ?_
    exact rt () trivial rfl (fun _ h => h.ent fun _ j => j.2)
theorem fl_inc {i : Nat} (h : i + 1 < (fl g 64).length) : (fl g 64)[i] < (fl g 64)[i + 1] := List.pairwise_iff_getElem.1 fl_pw i (i + 1) (by omega) h (by omega)
theorem cAMay (hJ : Ent J (Rs fh 1 ad cap (fl g 64)) := by exact jA) : Tr TP 310 [.slice ad (fl g 64).length cap] (Ctx J H) (fun _ : Unit => .bool true) (fun _ => True) (fun _ => Ctx J H) := by
  have hl := fl_len (g := g) (n := 64)
  refine en0 Tryz.func310 rfl rfl rfl (addJ hJ (go ?_))
  refine lp (X := Nat) (fun k => k ≤ (fl g 64).length) (fun k => [(0, .slice ad (fl g 64).length cap), (3, .int .i64 (k + 1 : Nat))]) (fun k => Ctx (Rs fh 1 ad cap (fl g 64) :: J) H) (fun k => (fl g 64).length - k) 0 (by simp) rfl (fun _ h => h) fun k hk => ?_
  refine go ?_
  refine ⟨fun h => ?_, fun h => ?_⟩
  · have hi := fl_inc (g := g) (i := k) (by omega)
    refine go ?_
    rw [show ((k + 1 : Nat) : Int) - 1 = (k : Nat) by omega]
    refine go ?_
    exact en (k + 1) (by omega) (by simp)
  · refine go ?_
    exact rt () trivial rfl (fun _ h => h.ent fun _ j => j.2)
theorem cAMay4 (hJ : Ent J (Rs fh 1 ad cap (fl g 64)) := by exact jA) : Tr TP 188 [.slice ad (fl g 64).length cap] (Ctx J H) (fun _ : Unit => .bool true) (fun _ => True) (fun _ => Ctx J H) := by
  have hl := fl_len (g := g) (n := 64)
  refine en0 Tryz.func188 rfl rfl rfl (addJ hJ (go ?_))
  refine lp (X := Nat) (fun k => k ≤ (fl g 64).length) (fun k => [(0, .slice ad (fl g 64).length cap), (3, .int .i64 (k + 1 : Nat))]) (fun k => Ctx (Rs fh 1 ad cap (fl g 64) :: J) H) (fun k => (fl g 64).length - k) 0 (by simp) rfl (fun _ h => h) fun k hk => ?_
  refine go ?_
  refine ⟨fun h => ?_, fun h => ?_⟩
  · have hi := fl_inc (g := g) (i := k) (by omega)
    refine go ?_
    rw [show ((k + 1 : Nat) : Int) - 1 = (k : Nat) by omega]
    refine go ?_
    exact en (k + 1) (by omega) (by simp)
  · refine go ?_
    exact rt () trivial rfl (fun _ h => h.ent fun _ j => j.2)
theorem cARuns (hp : P60 p) (hJ : Ent J (Rs fh 1 ad cap (fl p 64)) := by exact jA) : Tr TP 343 [.slice ad (fl p 64).length cap] (Ctx J H) (fun _ : Unit => .int .i64 (rn p).length) (fun _ => True) (fun _ => Ctx J H) := by
  have hl := fl_len (g := p) (n := 64)
  refine en0 Tryz.func343 rfl rfl rfl (addJ hJ (go ?_))
  refine lp (X := Nat) (fun n => n ≤ 64 ∧ (n = 0 ∨ bev p n = true)) (fun n => [(0, .slice ad (fl p 64).length cap), (3, .int .i64 (rnp p n).length), (6, .slice ad (fl p 64).length cap), (7, .int .i64 (fl p 64).length), (8, .int .i64 (fl p n).length)]) (fun n => Ctx (Rs fh 1 ad cap (fl p 64) :: J) H) (fun n => 64 - n) 0 (by simp) rfl (fun _ h => h) fun n ⟨hn, hb⟩ => ?_
  have hle := fl_lenle (g := p) hn
  have hrl : (rnp p n).length ≤ 64 := by
    rw [rnp_cnt]; exact Nat.le_trans fl_len hn
  refine go ?_
  refine ⟨fun h => ?_, fun h => ?_⟩
  · have hlt : (fl p n).length < (fl p 64).length := by omega
    obtain ⟨h1, h2, h3, h4⟩ := fl_next hn hlt
    have h5 : (fl p 64)[(fl p n).length] < 60 := Nat.lt_of_not_le fun hh => by rw [hp _ hh] at h3; cases h3
    have h6 := fl_step hn hlt
    have hbe : bev p ((fl p 64)[(fl p n).length] + 1) = true := by rw [bev_succ, h3]
    rcases Nat.eq_zero_or_pos (fl p n).length with h0 | h0
    · have hn0 : n = 0 := by
        rcases hb with hb | hb
        · exact hb
        · have := (fl_last hb hn).1; omega
      have hgp := rnp_gap h1 h4 h3 (.inr hn0)
      refine go ?_
      exact en ((fl p 64)[(fl p n).length] + 1) ⟨⟨by omega, .inr hbe⟩, by omega⟩ (by simp [h6, hgp])
    · have hbt : bev p n = true := by
        rcases hb with hb | hb
        · subst hb; simp [fl] at h0
        · exact hb
      obtain ⟨-, hi, hlast⟩ := fl_last hbt hn
      have hn1 : 0 < n := by
        simp only [bev, Bool.and_eq_true, decide_eq_true_eq] at hbt; exact hbt.1
      refine go ?_
      rw [show ((fl p n).length : Int) - 1 = (((fl p n).length - 1 : Nat) : Int) by omega]
      refine ⟨fun h => (nomatch h), fun _ => go ?_⟩
      rw [hlast]
      refine ⟨fun h8 => ?_, fun h8 => ?_⟩
      · have hgp := rnp_gap h1 h4 h3 (.inl (by omega))
        refine go ?_
        exact en ((fl p 64)[(fl p n).length] + 1) ⟨⟨by omega, .inr hbe⟩, by omega⟩ (by simp [h6, hgp])
      · have e9 : n = (fl p 64)[(fl p n).length] := by omega
        rw [← e9] at h3 h6 hbe
        obtain ⟨r0, a, ha, g1, g2⟩ := rnp_touch hbt h3
        refine go ?_
        exact en (n + 1) ⟨⟨by omega, .inr hbe⟩, by omega⟩ (by simp [h6, g1, g2])
  · obtain e : (fl p n).length = (fl p 64).length := by omega
    have hz := fl_end (g := p) hn (by omega)
    have e2 : (rnp p n).length = (rn p).length := by
      rw [rn_cnt hp, rnp_cnt, fl_same hn fun y h1 h2 => by simp [bg, hz y h1 h2]]
    refine go ?_
    rw [e2]
    exact rt () trivial rfl (fun _ h => h.ent fun _ j => j.2)
end
end
end Go.Proofs.YtimemehaccgmmaaGreatDoor
namespace Go.Proofs.YtimemehaccgmmaaGreatDoor
open Go.RowKit
set_option maxRecDepth 100000
set_option linter.unusedVariables false
set_option linter.unusedSimpArgs false
noncomputable section
def at1 {α : Type} (z x : α) : Nat → α
  | 1 => x
  | _ => z
def at2 {α : Type} (z x : α) : Nat → α
  | 2 => x
  | _ => z
def at3 {α : Type} (z x : α) : Nat → α
  | 0 => z
  | 1 => z
  | 2 => z
  | _ => x
def k8 : Nat → Int
  | 0 => 0
  | 1 => 1
  | 2 => 2
  | _ => 3
/-- A container's cells: its kind, what its kind has. -/
def cC (k : Nat) (q : Q2) (p : Nat → Bool) : List Value :=
  [.int .u8 (k8 k), .slice (at1 none q.1 k) (at1 0 (fl p 64).length k) (at1 0 q.2 k), .slice (at2 none q.1 k) (at2 0 1024 k) (at2 0 q.2 k), .slice (at3 none q.1 k) (at3 0 (rn p).length k) (at3 0 q.2 k)]
def cF (k : Nat) (q : Q2) (p : Nat → Bool) : World → Prop :=
  match k with
  | 0 => fun _ => p = fun _ => false
  | 1 => Rs fh 1 q.1 q.2 (fl p 64)
  | 2 => Rs fw 1 q.1 q.2 (wl (bm p 64))
  | _ => Rs fR 2 q.1 q.2 (rn p)
def kV : Nat → Value
  | 0 => .int .u8 1
  | 1 => .int .u8 1
  | 2 => .int .u8 2
  | _ => .int .u8 3
theorem rNl {α : Type} {f : α → List Value} {sz : Nat} {J : List (World → Prop)} : Ent J (Rs f sz none 0 []) := fun _ _ => ⟨by simp, by simp, fun i hi => absurd hi (Nat.not_lt_zero _)⟩
section
variable {J : List (World → Prop)} {H : List RC} {p q g : Nat → Bool} {k : Nat} {s s2 : Q2}
theorem cF0 (h : Ent J (cF 0 s p)) {n : Fr} {st : List KI} {L : Env} {Q : Exit → Act → World → Prop} (k : p = (fun _ => false) → HK TP n st L (Ctx J H) Q) : HK TP n st L (Ctx J H) Q := pur h k
theorem cKind (hk : k ≤ 3) : Tr TP 114 [.agg ⟨cC k s p⟩] (Ctx J H) (fun _ : Unit => kV k) (fun _ => True) (fun _ => Ctx J H) := by
  obtain rfl | rfl | rfl | rfl : k = 0 ∨ k = 1 ∨ k = 2 ∨ k = 3 := by omega
  all_goals
    refine en0 Tryz.func114 rfl rfl rfl (go ?_)
    intro b
    exact rt () trivial rfl (fun _ h => h.rest)
theorem cCLen (hk : k ≤ 3) (hp : P60 p) (hJ : Ent J (cF k s p)) : Tr TP 116 [.agg ⟨cC k s p⟩] (Ctx J H) (fun _ : Unit => .int .i64 (fl p 64).length) (fun _ => True) (fun _ => Ctx J H) := by
  have key191 : ∀ {J H}, k ≤ 1 → Ent J (cF k s p) → Tr TP 191 [.agg ⟨cC k s p⟩] (Ctx J H) (fun _ : Unit => .int .i64 (fl p 64).length) (fun _ => True) (fun _ => Ctx J H) := by
    intro J H hk hJ
    obtain rfl | rfl : k = 0 ∨ k = 1 := by omega
    · refine en0 Tryz.func191 rfl rfl rfl (cF0 hJ fun e => go ?_)
      intro b
      rw [e, fl0]
      exact rt () trivial rfl (fun _ h => h.rest)
    · refine en0 Tryz.func191 rfl rfl rfl (go ?_)
      intro b
      exact rt () trivial rfl (fun _ h => h.rest)
  have key192 : ∀ {J H}, Ent J (cF 2 s p) → Tr TP 192 [.agg ⟨cC 2 s p⟩] (Ctx J H) (fun _ : Unit => .int .i64 (fl p 64).length) (fun _ => True) (fun _ => Ctx J H) := by
    intro J H hJ
    refine en0 Tryz.func192 rfl rfl rfl (go ?_)
    intro b
    refine cg (cWLen (p := p) (hJ := hJ)) fun _ _ => ?_
    exact rt () trivial rfl (fun _ h => h.rest)
  have key193 : ∀ {J H}, Ent J (cF 3 s p) → Tr TP 193 [.agg ⟨cC 3 s p⟩] (Ctx J H) (fun _ : Unit => .int .i64 (fl p 64).length) (fun _ => True) (fun _ => Ctx J H) := by
    intro J H hJ
    refine en0 Tryz.func193 rfl rfl rfl (go ?_)
    intro b
    refine cg (cRLen (hJ := hJ) hp) fun _ _ => ?_
    exact rt () trivial rfl (fun _ h => h.rest)
  obtain rfl | rfl | rfl | rfl : k = 0 ∨ k = 1 ∨ k = 2 ∨ k = 3 := by omega
  · refine en0 Tryz.func116 rfl rfl rfl (go ?_)
    intro b
    refine cg (cKind (k := 0) (s := s) (p := p) (by omega)) fun _ _ => ?_
    refine cg (key191 (by omega) hJ) fun _ _ => ?_
    exact rt () trivial rfl (fun _ h => h.rest)
  · refine en0 Tryz.func116 rfl rfl rfl (go ?_)
    intro b
    refine cg (cKind (k := 1) (s := s) (p := p) (by omega)) fun _ _ => ?_
    refine cg (key191 (by omega) hJ) fun _ _ => ?_
    exact rt () trivial rfl (fun _ h => h.rest)
  · refine en0 Tryz.func116 rfl rfl rfl (go ?_)
    intro b
    refine cg (cKind (k := 2) (s := s) (p := p) (by omega)) fun _ _ => ?_
    refine cg (key192 hJ) fun _ _ => ?_
    exact rt () trivial rfl (fun _ h => h.rest)
  · refine en0 Tryz.func116 rfl rfl rfl (go ?_)
    intro b
    refine cg (cKind (k := 3) (s := s) (p := p) (by omega)) fun _ _ => ?_
    refine cg (key193 hJ) fun _ _ => ?_
    exact rt () trivial rfl (fun _ h => h.rest)
theorem cMany (hk : k ≤ 3) (hp : P60 p) (hJ : Ent J (cF k s p)) : Tr TP 311 [.agg ⟨cC k s p⟩] (Ctx J H) (fun _ : Unit => .int .i64 (rn p).length) (fun _ => True) (fun _ => Ctx J H) := by
  obtain rfl | rfl | rfl | rfl : k = 0 ∨ k = 1 ∨ k = 2 ∨ k = 3 := by omega
  · refine en0 Tryz.func311 rfl rfl rfl (cF0 hJ fun e => go ?_)
    intro b
    subst e
    refine cg (cARuns (p := fun _ => false) (ad := none) (cap := 0) hp (by rw [fl0]; exact rNl)) fun _ _ => ?_
    exact rt () trivial rfl (fun _ h => h.rest)
  · refine en0 Tryz.func311 rfl rfl rfl (go ?_)
    intro b
    refine cg (cARuns hp hJ) fun _ _ => ?_
    exact rt () trivial rfl (fun _ h => h.rest)
  · refine en0 Tryz.func311 rfl rfl rfl (go ?_)
    intro b
    rw [rn_cnt hp]
    refine cg (cWRuns hJ hp) fun _ _ => ?_
    exact rt () trivial rfl (fun _ h => h.rest)
  · refine en0 Tryz.func311 rfl rfl rfl (go ?_)
    intro b
    exact rt () trivial rfl (fun _ h => h.rest)
theorem cArray (hk : k ≤ 3) (hp : P60 p) (hT : Ent J TabT) (hJ : Ent J (cF k s p)) : Tr TP 197 [.agg ⟨cC k s p⟩] (Ctx J H) (fun r : Q2 => .slice r.1 (fl p 64).length r.2) (fun _ => True) (fun r => Ctx J (sl fh 1 152 r.1 r.2 (fl p 64) :: H)) := by
  have hl := fl_len (g := p) (n := 64)
  obtain rfl | rfl | rfl | rfl : k = 0 ∨ k = 1 ∨ k = 2 ∨ k = 3 := by omega
  · refine en0 Tryz.func197 rfl rfl rfl (cF0 hJ fun e => go ?_)
    intro b
    subst e
    rw [fl0]
    refine cg (cloneH (xs := []) (hJ := rNl)) fun r _ => ?_
    exact rt r trivial rfl (fun _ h => h.drp 1)
  · refine en0 Tryz.func197 rfl rfl rfl (go ?_)
    intro b
    refine cg (cloneH (hJ := hJ)) fun r _ => ?_
    exact rt r trivial rfl (fun _ h => h.drp 1)
  · refine en0 Tryz.func197 rfl rfl rfl (go ?_)
    intro b
    refine cg (cWList hJ hT) fun r _ => ?_
    exact rt r trivial rfl (fun _ h => h.drp 1)
  · refine en0 Tryz.func197 rfl rfl rfl (go ?_)
    intro b
    refine cg (cRList hJ hp) fun r _ => ?_
    exact rt r trivial rfl (fun _ h => h.drp 1)
theorem cRuns (hk : k ≤ 3) (hp : P60 p) (hT : Ent J TabT) (hJ : Ent J (cF k s p)) : Tr TP 194 [.agg ⟨cC k s p⟩] (Ctx J H) (fun r : Q2 => .slice r.1 (rn p).length r.2) (fun _ => True) (fun r => Ctx J (sl fR 2 297 r.1 r.2 (rn p) :: H)) := by
  have hl := rn_len hp
  obtain rfl | rfl | rfl | rfl : k = 3 ∨ k = 0 ∨ k = 1 ∨ k = 2 := by omega
  · refine en0 Tryz.func194 rfl rfl rfl (go ?_)
    intro b
    refine cg (cloneR (hJ := hJ)) fun r _ => ?_
    exact rt r trivial rfl (fun _ h => h.drp 1)
  all_goals
    refine en0 Tryz.func194 rfl rfl rfl (go ?_)
    intro b
    refine ca (cArray (s := s) (p := p) (by omega) hp hT hJ) fun r _ => ?_
    refine fz (go ?_)
    refine cg (cROf je0 hp) fun r2 _ => ?_
    exact rt r2 trivial rfl (fun _ h => (h.drp 1).ent fun _ j => j.2)
end
end
end Go.Proofs.YtimemehaccgmmaaGreatDoor
namespace Go.Proofs.YtimemehaccgmmaaGreatDoor
open Go.RowKit
set_option maxRecDepth 100000
set_option linter.unusedVariables false
set_option linter.unusedSimpArgs false
noncomputable section
/-- The kind that a set asks for. -/
def cn (p : Nat → Bool) : Nat := if 2 + 4 * (rn p).length < 2 * (fl p 64).length then 3 else 1
theorem cn_le (p : Nat → Bool) : cn p ≤ 3 ∧ (cn p = 1 ∨ cn p = 3) := by unfold cn; split <;> omega
section
variable {J : List (World → Prop)} {H : List RC} {p q g : Nat → Bool} {k : Nat} {s s2 : Q2}
theorem inr_step {j : Nat} (hj : j < (rn p).length) (i : Nat) : ((((rn p).take j).flatMap rng).contains i ^^ (decide ((rn p)[j].1 ≤ i) && decide (i < (rn p)[j].1 + ((rn p)[j].2 + 1)))) = (((rn p).take (j + 1)).flatMap rng).contains i := by
  rw [flat_take_one hj, List.contains_append]
  have e : (rng (rn p)[j]).contains i = (decide ((rn p)[j].1 ≤ i) && decide (i < (rn p)[j].1 + ((rn p)[j].2 + 1))) := by
    rw [Bool.eq_iff_iff]; simp [rng, List.mem_range'_1]
  rw [e]
  cases hc : (((rn p).take j).flatMap rng).contains i with
  | false => simp
  | true =>
    have hm := List.contains_iff_mem.1 hc
    obtain ⟨r, hr, hm⟩ := List.mem_flatMap.1 hm
    obtain ⟨h, hh, rfl⟩ := List.mem_iff_getElem.1 hr
    have hh2 : h < j := by simp at hh; omega
    have hh3 : h < (rn p).length := by omega
    rw [List.getElem_take] at hm
    simp only [rng, List.mem_range'_1] at hm
    have := (okR_at hh3 (rn_ok (p := p)).1).2.2 j hj hh2
    rw [show decide ((rn p)[j].1 ≤ i) = false from decide_eq_false (by omega)]
    simp
theorem inr_all (hp : P60 p) : bm (fun i => (((rn p).take (rn p).length).flatMap rng).contains i) 64 = bm p 64 := bm_congr fun i hi => by
  rw [List.take_length, rn_fl hp, Bool.eq_iff_iff, List.contains_iff_mem, mem_fl]; simp [hi]
theorem cWords (hk : k ≤ 3) (hp : P60 p) (hJ : Ent J (cF k s p)) : Tr TP 195 [.agg ⟨cC k s p⟩] (Ctx J H) (fun r : Q2 => .slice r.1 1024 r.2) (fun _ => True) (fun r => Ctx J (sl fw 1 111 r.1 r.2 (wl (bm p 64)) :: H)) := by
  have hl := rn_len hp
  have hw := wl_len (bm p 64)
  obtain rfl | rfl | rfl | rfl : k = 0 ∨ k = 1 ∨ k = 2 ∨ k = 3 := by omega
  · refine en0 Tryz.func195 rfl rfl rfl (cF0 hJ fun e => go ?_)
    intro b
    subst e
    refine ca (cWOf (ad := none) (cap := 0) (by rw [fl0]; exact rNl) hp) fun r _ => ?_
    rw [wl_len]
    refine go ?_
    exact rt r trivial rfl (fun _ h => h.drp 1)
  · refine en0 Tryz.func195 rfl rfl rfl (go ?_)
    intro b
    refine ca (cWOf hJ hp) fun r _ => ?_
    rw [wl_len]
    refine go ?_
    exact rt r trivial rfl (fun _ h => h.drp 1)
  · refine en0 Tryz.func195 rfl rfl rfl (go ?_)
    intro b
    refine ca (cloneW (hJ := hJ)) fun r _ => ?_
    rw [wl_len]
    refine go ?_
    exact rt r trivial rfl (fun _ h => h.drp 1)
  · refine en0 Tryz.func195 rfl rfl rfl (addJ hJ (go ?_))
    intro b
    refine ca (cWOf (p := fun _ => false) (ad := none) (cap := 0) (by rw [fl0]; exact rNl) fun _ _ => rfl) fun r _ => ?_
    rw [wl_len]
    refine fr 0 rfl (go ?_)
    refine lp (X := Nat × Q2) (fun x => x.1 ≤ (rn p).length) (fun (j, r) => [(3, .slice r.1 1024 r.2), (17, .slice s.1 (rn p).length s.2), (18, .int .i64 (rn p).length), (19, .int .i64 j)]) (fun (j, r) => Ctx (Rs fR 2 s.1 s.2 (rn p) :: J) (sl fw 1 111 r.1 r.2 (wl (bm (fun i => (((rn p).take j).flatMap rng).contains i) 64)) :: H)) (fun x => (rn p).length - x.1) (0, r) (by simp) rfl (fun _ h => by have h2 := h.drp 1; exact h2) fun ⟨j, r⟩ hj => ?_
    dsimp only at hj
    dsimp only
    refine go ?_
    refine ⟨fun h => ?_, fun h => ?_⟩
    · have hj1 : j < (rn p).length := by omega
      have ha := rn_at hj1
      refine go ?_
      intro c
      rw [show ((rn p)[j].1 : Int) + (rn p)[j].2 + 1 = (((rn p)[j].1 + ((rn p)[j].2 + 1) : Nat) : Int) by omega]
      refine frc 1 rfl (fzc ?_)
      refine ca (cWFlip (p := fun i => (((rn p).take j).flatMap rng).contains i) (by omega) (by omega) je0) fun r2 _ => ?_
      rw [funext (inr_step hj1)]
      refine go ?_
      exact en (j + 1, r2) (by dsimp only; omega) (by simp) (fun _ h => (h.drp 1).ent fun _ j => j.2)
    · obtain rfl : j = (rn p).length := by omega
      rw [inr_all hp]
      refine go ?_
      exact rt r trivial rfl (fun _ h => h.ent fun _ j => j.2)
set_option maxHeartbeats 2000000 in
theorem cCan (hk : 1 ≤ k ∧ k ≤ 3) (hp : P60 p) (hT : Ent J TabT) (hJ : Ent J (cF k s p)) : Tr TP 263 [.agg ⟨cC k s p⟩] (Ctx J H) (fun r : Q2 => .agg ⟨cC (cn p) r p⟩) (fun _ => True) (fun r => Ctx (cF (cn p) r p :: J) H) := by
  have hl := rn_len hp
  have hl2 := fl_len (g := p) (n := 64)
  obtain rfl | rfl | rfl : k = 1 ∨ k = 2 ∨ k = 3 := by omega
  all_goals
    refine en0 Tryz.func263 rfl rfl rfl (go ?_)
    intro b c
    refine cg (cCLen (s := s) (p := p) (by omega) hp hJ) fun _ _ => ?_
    by_cases hc : 2 + 4 * (rn p).length < 2 * (fl p 64).length
    · have e : cn p = 3 := by unfold cn; rw [if_pos hc]
      rw [e]
      refine cg (cMany (s := s) (p := p) (by omega) hp hJ) fun _ _ => ?_
      first
        | refine cg (cKind (k := 1) (s := s) (p := p) (by omega)) fun _ _ => ?_
        | refine cg (cKind (k := 2) (s := s) (p := p) (by omega)) fun _ _ => ?_
        | refine cg (cKind (k := 3) (s := s) (p := p) (by omega)) fun _ _ => ?_
      first
        | (refine ca (cRuns (k := 1) (s := s) (p := p) (by omega) hp hT hJ) fun r _ => ?_; refine fz (go ?_); exact rv r trivial (fun _ h => (h.drp 0).drp 0))
        | (refine ca (cRuns (k := 2) (s := s) (p := p) (by omega) hp hT hJ) fun r _ => ?_; refine fz (go ?_); exact rv r trivial (fun _ h => (h.drp 0).drp 0))
        | exact rv s trivial (fun _ h => ((h.drp 0).drp 0).ent fun w j => ⟨hJ w j, j⟩)
    · have e : cn p = 1 := by unfold cn; rw [if_neg hc]
      rw [e]
      refine cg (cMany (s := s) (p := p) (by omega) hp hJ) fun _ _ => ?_
      first
        | refine cg (cKind (k := 1) (s := s) (p := p) (by omega)) fun _ _ => ?_
        | refine cg (cKind (k := 2) (s := s) (p := p) (by omega)) fun _ _ => ?_
        | refine cg (cKind (k := 3) (s := s) (p := p) (by omega)) fun _ _ => ?_
      first
        | (refine ca (cArray (k := 2) (s := s) (p := p) (by omega) hp hT hJ) fun r _ => ?_; refine fz (go ?_); exact rv r trivial (fun _ h => (h.drp 0).drp 0))
        | (refine ca (cArray (k := 3) (s := s) (p := p) (by omega) hp hT hJ) fun r _ => ?_; refine fz (go ?_); exact rv r trivial (fun _ h => (h.drp 0).drp 0))
        | exact rv s trivial (fun _ h => ((h.drp 0).drp 0).ent fun w j => ⟨hJ w j, j⟩)
end
end
end Go.Proofs.YtimemehaccgmmaaGreatDoor
