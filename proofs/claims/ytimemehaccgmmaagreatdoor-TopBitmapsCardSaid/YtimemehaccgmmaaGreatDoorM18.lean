/-
  Parts of the walks and their plain laws (R8 R9 R10 R15 R16 R17). No condition.
-/
import Derived.Test.YtimemehaccgmmaaGreatDoorM17
import Derived.Test.YtimemehaccgmmaaGreatDoorM13
namespace Go.Proofs.YtimemehaccgmmaaGreatDoor
open Go.RowKit
set_option maxRecDepth 100000
set_option linter.unusedVariables false
set_option linter.unusedSimpArgs false
noncomputable section
/-- What is done with two Bools. -/
abbrev BbT (F : FuncId) (f : Bool → Bool → Bool) : Prop := ∀ {J H} {x y : Bool}, Tr TP F [.bool x, .bool y] (Ctx J H) (fun _ : Unit => .bool (f x y)) (fun _ => True) (fun _ => Ctx J H)
theorem cROr1 : BbT 321 (fun a b => a || b) := by
  intro J H x y
  cases x
  · refine en0 Tryz.func321 rfl rfl rfl (go ?_)
    exact rt () trivial rfl (fun _ h => h)
  · refine en0 Tryz.func321 rfl rfl rfl (go ?_)
    exact rt () trivial rfl (fun _ h => h)
theorem cRAn1 : BbT 335 (fun a b => a && !b) := by
  intro J H x y
  cases x
  · refine en0 Tryz.func335 rfl rfl rfl (go ?_)
    exact rt () trivial rfl (fun _ h => h)
  · refine en0 Tryz.func335 rfl rfl rfl (go ?_)
    exact rt () trivial rfl (fun _ h => h)
theorem fl_zero (g : Nat → Bool) : fl g 0 = [] := rfl
theorem rst_zero (g : Nat → Bool) : rst g 0 = ([], none) := rfl
theorem par (p : Nat → Bool) (t : Nat) : decide ((((fl (chg p) (t + 1)).length : Nat) : Int) % 2 = 1) = p t := by
  rw [← bev_succ (p := p) (n := t), ← chg_par]
  apply decide_eq_decide.2; omega
theorem fl_below {g : Nat → Bool} {t i : Nat} (ht : t + 1 ≤ 64) (h : i < (fl g (t + 1)).length) : ∃ h2 : i < (fl g 64).length, (fl g 64)[i] ≤ t := by
  obtain ⟨l, hl⟩ := fl_pre (g := g) ht
  have h2 : i < (fl g 64).length := by rw [hl, List.length_append]; omega
  refine ⟨h2, ?_⟩
  have : (fl g 64)[i] = (fl g (t + 1))[i] := by simp only [hl]; rw [List.getElem_append_left h]
  rw [this]
  have := (mem_fl.1 (List.getElem_mem h)).1; omega
section
variable {J : List (World → Prop)} {H : List RC} {p q : Nat → Bool} {ad ad2 : Option Addr} {cap cap2 : Nat}
set_option maxHeartbeats 2000000 in
theorem cEdges {F : FuncId} {f : Bool → Bool → Bool} (hf : f false false = false) (hcl : BbT F f) (hp : P60 p) (hq : P60 q) (hJ : Ent J (Rs fn 1 ad cap (fl (chg p) 64)) := by exact jA) (hJ2 : Ent J (Rs fn 1 ad2 cap2 (fl (chg q) 64)) := by exact jA) :
    Tr TP 319 [.slice ad (fl (chg p) 64).length cap, .slice ad2 (fl (chg q) 64).length cap2, .func (.func F) #[] #[]] (Ctx J H) (fun r : Q2 => .slice r.1 (rn (fun i => f (p i) (q i))).length r.2) (fun _ => True) (fun r => Ctx J (sl fR 2 297 r.1 r.2 (rn (fun i => f (p i) (q i))) :: H)) := by
  have hl := fl_len (g := chg p) (n := 64)
  have hl2 := fl_len (g := chg q) (n := 64)
  refine en0 Tryz.func319 rfl rfl rfl (addJ hJ2 (addJ (fun w j => hJ w j.2) (go ?_)))
  refine scp (go ?_)
  refine nwS fR 2 297 none ?_
  generalize hg : (fun i => f (p i) (q i)) = g
  refine lp (X := Nat × Nat × Q2) (fun x => x.1 ≤ 64 ∧ x.2.1 ≤ 64 ∧ ∀ a, (rst g x.1).2 = some a → x.2.1 = a) (fun (n, m, r) => [(0, .slice ad (fl (chg p) 64).length cap), (1, .slice ad2 (fl (chg q) 64).length cap2), (2, .func (.func F) #[] #[]), (7, .slice r.1 (rst g n).1.length r.2), (8, .bool (bev g n)), (9, .int .i64 m), (10, .int .i64 (fl (chg p) n).length), (11, .int .i64 (fl (chg q) n).length)])
    (fun (n, m, r) => Ctx (Rs fn 1 ad cap (fl (chg p) 64) :: Rs fn 1 ad2 cap2 (fl (chg q) 64) :: J) (sl fR 2 297 r.1 r.2 (rst g n).1 :: H)) (fun x => 64 - x.1) (0, 0, none, 0) (by simp [rst]) (by simp [rst_zero, bev, fl_zero]) (fun _ h => h) fun ⟨n, m, r⟩ ⟨hn, hm, hon⟩ => ?_
  dsimp only at hn hm hon
  dsimp only
  have hle := fl_lenle (g := chg p) hn
  have hle2 := fl_lenle (g := chg q) hn
  have hrl : (rst g n).1.length ≤ 64 := by
    have := rnp_cnt g n
    rw [rnp, List.length_append] at this
    have := fl_len (g := bg g) (n := n)
    omega
  have key : (∃ t : Nat, n ≤ t ∧ t < 64 ∧ (∀ y, n ≤ y → y < t → chg p y = false) ∧ (∀ y, n ≤ y → y < t → chg q y = false)
      ∧ (((fl (chg p) n).length < (fl (chg p) 64).length ∧ ¬ (fl (chg q) n).length < (fl (chg q) 64).length ∧ (∀ h, (fl (chg p) 64)[(fl (chg p) n).length]'h = t))
       ∨ (¬ (fl (chg p) n).length < (fl (chg p) 64).length ∧ (fl (chg q) n).length < (fl (chg q) 64).length ∧ (∀ h, (fl (chg q) 64)[(fl (chg q) n).length]'h = t))
       ∨ ((fl (chg p) n).length < (fl (chg p) 64).length ∧ (fl (chg q) n).length < (fl (chg q) 64).length ∧ ∀ h h2, min ((fl (chg p) 64)[(fl (chg p) n).length]'h) ((fl (chg q) 64)[(fl (chg q) n).length]'h2) = t)))
    ∨ (¬ (fl (chg p) n).length < (fl (chg p) 64).length ∧ ¬ (fl (chg q) n).length < (fl (chg q) 64).length) := by
    by_cases h1 : (fl (chg p) n).length < (fl (chg p) 64).length <;> by_cases h2 : (fl (chg q) n).length < (fl (chg q) 64).length
    · obtain ⟨a1, a2, a3, a4⟩ := fl_next hn h1
      obtain ⟨b1, b2, b3, b4⟩ := fl_next hn h2
      refine .inl ⟨min (fl (chg p) 64)[(fl (chg p) n).length] (fl (chg q) 64)[(fl (chg q) n).length], by omega, by omega, fun y hy1 hy2 => a4 y hy1 (by omega), fun y hy1 hy2 => b4 y hy1 (by omega), .inr (.inr ⟨h1, h2, fun _ _ => rfl⟩)⟩
    · obtain ⟨a1, a2, a3, a4⟩ := fl_next hn h1
      exact .inl ⟨_, a1, a2, a4, fun y hy1 hy2 => fl_end hn h2 y hy1 (by omega), .inl ⟨h1, h2, fun _ => rfl⟩⟩
    · obtain ⟨b1, b2, b3, b4⟩ := fl_next hn h2
      exact .inl ⟨_, b1, b2, fun y hy1 hy2 => fl_end hn h1 y hy1 (by omega), b4, .inr (.inl ⟨h1, h2, fun _ => rfl⟩)⟩
    · exact .inr ⟨h1, h2⟩
  rcases key with ⟨t, ht1, ht2, hc1, hc2, hk⟩ | ⟨h1, h2⟩
  · obtain ⟨c1, c2⟩ := chg_const ht1 hc1
    obtain ⟨d1, d2⟩ := chg_const ht1 hc2
    have hgb : bev g n = f (bev p n) (bev q n) := by
      subst hg
      unfold bev
      by_cases h0 : 0 < n
      · simp [h0]
      · simp [h0, hf]
    obtain ⟨e1, e2, e3⟩ := rst_const (p := g) ht1 fun y h1 h2 => by rw [hgb, ← c1 y h1 h2, ← d1 y h1 h2, ← hg]
    have hgt : f (p t) (q t) = g t := by rw [← hg]
    have hI1 := fl_lenle (g := chg p) (show t + 1 ≤ 64 by omega)
    have hI2 := fl_lenle (g := chg q) (show t + 1 ≤ 64 by omega)
    have hI3 := fl_lenle (g := chg p) (show n ≤ t + 1 by omega)
    have hI4 := fl_lenle (g := chg q) (show n ≤ t + 1 by omega)
    rcases hk with ⟨h1, h2, h3⟩ | ⟨h1, h2, h3⟩ | ⟨h1, h2, h3⟩
    all_goals refine go ?_
    all_goals first
      | rw [show (if (((fl (chg q) 64)[(fl (chg q) n).length]'h2 : Nat) : Int) < ((fl (chg p) 64)[(fl (chg p) n).length]'h1 : Nat) then (((fl (chg q) 64)[(fl (chg q) n).length]'h2 : Nat) : Int) else ((fl (chg p) 64)[(fl (chg p) n).length]'h1 : Nat)) = (t : Nat) by have := h3 h1 h2; split <;> omega]
      | rw [show (if (((fl (chg q) 64)[(fl (chg q) n).length]'h2 : Nat) : Int) < 65537 then (((fl (chg q) 64)[(fl (chg q) n).length]'h2 : Nat) : Int) else 65537) = (t : Nat) by have := h3 h2; split <;> omega]
      | rw [h3 h1]
    all_goals
      clear h3
      refine lp (X := Nat) (fun i => (fl (chg p) n).length ≤ i ∧ i ≤ (fl (chg p) (t + 1)).length) (fun i => [(0, .slice ad (fl (chg p) 64).length cap), (1, .slice ad2 (fl (chg q) 64).length cap2), (2, .func (.func F) #[] #[]), (7, .slice r.1 (rst g n).1.length r.2), (8, .bool (bev g n)), (9, .int .i64 m), (10, .int .i64 i), (11, .int .i64 (fl (chg q) n).length), (12, .int .i64 t)]) (fun _ => Ctx (Rs fn 1 ad cap (fl (chg p) 64) :: Rs fn 1 ad2 cap2 (fl (chg q) 64) :: J) (sl fR 2 297 r.1 r.2 (rst g n).1 :: H)) (fun i => (fl (chg p) (t + 1)).length - i) (fl (chg p) n).length ⟨Nat.le_refl _, hI3⟩ rfl (fun _ h => h) fun i ⟨hi1, hi2⟩ => ?_
      by_cases hi : i < (fl (chg p) (t + 1)).length
      · obtain ⟨g1, g2⟩ := fl_below (show t + 1 ≤ 64 by omega) hi
        refine go ?_
        exact en (i + 1) (by omega) (by simp)
      obtain rfl : i = (fl (chg p) (t + 1)).length := by omega
      have hex : (fl (chg p) (t + 1)).length < (fl (chg p) 64).length → ∀ h, t < (fl (chg p) 64)[(fl (chg p) (t + 1)).length]'h := fun h h' => (fl_next (show t + 1 ≤ 64 by omega) h).1
      by_cases hx1 : (fl (chg p) (t + 1)).length < (fl (chg p) 64).length
      all_goals try (exfalso; omega)
      all_goals
        try have hex1 := hex hx1 hx1
        refine go ?_
        refine lp (X := Nat) (fun i => (fl (chg q) n).length ≤ i ∧ i ≤ (fl (chg q) (t + 1)).length) (fun i => [(0, .slice ad (fl (chg p) 64).length cap), (1, .slice ad2 (fl (chg q) 64).length cap2), (2, .func (.func F) #[] #[]), (7, .slice r.1 (rst g n).1.length r.2), (8, .bool (bev g n)), (9, .int .i64 m), (10, .int .i64 (fl (chg p) (t + 1)).length), (11, .int .i64 i), (12, .int .i64 t)]) (fun _ => Ctx (Rs fn 1 ad cap (fl (chg p) 64) :: Rs fn 1 ad2 cap2 (fl (chg q) 64) :: J) (sl fR 2 297 r.1 r.2 (rst g n).1 :: H)) (fun i => (fl (chg q) (t + 1)).length - i) (fl (chg q) n).length ⟨Nat.le_refl _, hI4⟩ rfl (fun _ h => h) fun i ⟨hi1, hi2⟩ => ?_
        by_cases hi : i < (fl (chg q) (t + 1)).length
        · obtain ⟨g1, g2⟩ := fl_below (show t + 1 ≤ 64 by omega) hi
          refine go ?_
          exact en (i + 1) (by omega) (by simp)
        obtain rfl : i = (fl (chg q) (t + 1)).length := by omega
        have hex2 : ∀ h, t < (fl (chg q) 64)[(fl (chg q) (t + 1)).length]'h := fun h => (fl_next (show t + 1 ≤ 64 by omega) h).1
        by_cases hx2 : (fl (chg q) (t + 1)).length < (fl (chg q) 64).length
        all_goals try (exfalso; omega)
        all_goals
          try have hex3 := hex2 hx2
          refine go ?_
          rw [par p t, par q t]
          refine ca hcl fun _ _ => ?_
          rw [hgt]
          cases e4 : g t <;> cases e5 : bev g n <;> rw [e5] at e1
          · refine go ?_
            have e6 := rst_f0 e1 e4
            exact en (t + 1, m, r) ⟨⟨by dsimp only; omega, hm, fun a ha => hon a (by rw [e6, e2] at ha; exact ha)⟩, by dsimp only; omega⟩ (by simp [e6, e3, bev_succ, e4, e5]) (fun _ h => by rw [e6, e3]; exact h)
          · obtain ⟨a, ha, hlt⟩ := rst_some e5
            have e6 := rst_f1 e1 e4 (e2.trans ha)
            obtain rfl := hon a ha
            refine go ?_
            intro b
            rw [show ((t : Nat) : Int) - m - 1 = ((t - 1 - m : Nat) : Int) by omega]
            refine ap1 (f := fR) (m, t - 1 - m) fun r2 => ?_
            refine go ?_
            exact en (t + 1, t, r2) ⟨⟨by dsimp only; omega, by dsimp only; omega, fun a ha => by rw [e6] at ha; cases ha⟩, by dsimp only; omega⟩ (by simp [e6, e3, bev_succ, e4]) (fun _ h => by rw [e6, e3]; exact h)
          · have e6 := rst_t0 e1 e4
            refine go ?_
            exact en (t + 1, t, r) ⟨⟨by dsimp only; omega, by dsimp only; omega, fun a ha => by rw [e6] at ha; cases ha; rfl⟩, by dsimp only; omega⟩ (by simp [e6, e3, bev_succ, e4]) (fun _ h => by rw [e6, e3]; exact h)
          · refine go ?_
            have e6 := rst_t1 e1 e4
            exact en (t + 1, m, r) ⟨⟨by dsimp only; omega, hm, fun a ha => hon a (by rw [e6, e2] at ha; exact ha)⟩, by dsimp only; omega⟩ (by simp [e6, e3, bev_succ, e4, e5]) (fun _ h => by rw [e6, e3]; exact h)
  · refine go ?_
    have hgP : P60 g := fun i hi => by rw [← hg]; simp only [hp i hi, hq i hi, hf]
    obtain ⟨c1, c2⟩ := chg_const hn (fl_end hn h1)
    obtain ⟨d1, d2⟩ := chg_const hn (fl_end hn h2)
    have hgb : bev g n = f (bev p n) (bev q n) := by
      subst hg
      unfold bev
      by_cases h0 : 0 < n
      · simp [h0]
      · simp [h0, hf]
    obtain ⟨e1, e2, e3⟩ := rst_const (p := g) hn fun y h1 h2 => by rw [hgb, ← c1 y h1 h2, ← d1 y h1 h2, ← hg]
    have e : rn g = (rst g n).1 := by rw [rn_def, e3]
    rw [← e]
    exact rt r trivial rfl (fun _ h => h.ent fun _ j => j.2.2)
end
end
end Go.Proofs.YtimemehaccgmmaaGreatDoor
namespace Go.Proofs.YtimemehaccgmmaaGreatDoor
open Go.RowKit
set_option maxRecDepth 100000
set_option linter.unusedVariables false
set_option linter.unusedSimpArgs false
noncomputable section
theorem sub_tail {α : Type} (x : α) (l : List α) : sub (x :: l) 1 (x :: l).length = l := by simp [sub]
theorem fl_rest {g : Nat → Bool} {n N x : Nat} {l : List Nat} (hn : n ≤ N) (h : (fl g N).drop (fl g n).length = x :: l) : n ≤ x ∧ x < N ∧ g x = true ∧ (∀ y, n ≤ y → y < x → g y = false) ∧ (fl g N).drop (fl g (x + 1)).length = l ∧ (fl g (x + 1)) = fl g n ++ [x] := by
  have hlt : (fl g n).length < (fl g N).length := by
    apply Nat.lt_of_not_le; intro hh
    rw [List.drop_eq_nil_of_le hh] at h; cases h
  have hx : (fl g N)[(fl g n).length] = x := by
    have := List.drop_eq_getElem_cons hlt
    rw [h] at this; exact (List.cons.inj this).1.symm
  obtain ⟨h1, h2, h3, h4⟩ := fl_next hn hlt
  have h5 := fl_step hn hlt
  rw [hx] at h1 h2 h3 h4 h5
  refine ⟨h1, h2, h3, h4, ?_, h5⟩
  rw [h5, List.length_append, List.length_singleton, ← List.drop_drop, h]; rfl
theorem fl_nil {g : Nat → Bool} {n N : Nat} (hn : n ≤ N) (h : (fl g N).drop (fl g n).length = []) : ∀ y, n ≤ y → y < N → g y = false :=
  fl_end hn (by have := List.drop_eq_nil_iff.1 h; omega)
theorem fl_g {p q g : Nat → Bool} {n x : Nat} (hg : (fun i => p i || q i) = g) (hx0 : n ≤ x) (h1 : ∀ y, n ≤ y → y < x → p y = false) (h2 : ∀ y, n ≤ y → y < x → q y = false) (h3 : (p x || q x) = true) : fl g (x + 1) = fl g n ++ [x] := by
  subst hg
  rw [fl_t (by exact h3), fl_same hx0 fun y a b => by simp only [h1 y a b, h2 y a b, Bool.or_self]]
section
variable {J : List (World → Prop)} {H : List RC} {p q : Nat → Bool} {ad ad2 : Option Addr} {cap cap2 : Nat}
theorem cArOr1 {x y : Bool} : Tr TP 316 [.bool x, .bool y] (Ctx J H) (fun _ : Unit => .bool true) (fun _ => True) (fun _ => Ctx J H) := by
  refine en0 Tryz.func316 rfl rfl rfl (go ?_)
  exact rt () trivial rfl (fun _ h => h)
set_option maxHeartbeats 6000000 in
theorem cMerge (hJ : Ent J (Rs fh 1 ad cap (fl p 64)) := by exact jA) (hJ2 : Ent J (Rs fh 1 ad2 cap2 (fl q 64)) := by exact jA) :
    Tr TP 315 [.slice ad (fl p 64).length cap, .slice ad2 (fl q 64).length cap2, .func (.func 316) #[] #[]] (Ctx J H) (fun r : Q2 => .slice r.1 (fl (fun i => p i || q i) 64).length r.2) (fun _ => True) (fun r => Ctx J (sl fh 1 152 r.1 r.2 (fl (fun i => p i || q i) 64) :: H)) := by
  generalize hg : (fun i => p i || q i) = g
  refine en0 Tryz.func315 rfl rfl rfl (addJ hJ2 (addJ (fun w j => hJ w j.2) (go ?_)))
  refine nwS fh 1 152 none ?_
  refine lp (X := Nat × Q2 × Q2 × Q2) (fun x => x.1 ≤ 64) (fun (n, qa, qb, r) => [(0, .slice qa.1 ((fl p 64).drop (fl p n).length).length qa.2), (1, .slice qb.1 ((fl q 64).drop (fl q n).length).length qb.2), (2, .func (.func 316) #[] #[]), (7, .slice r.1 (fl g n).length r.2)])
    (fun (n, qa, qb, r) => Ctx (Rs fh 1 qa.1 qa.2 ((fl p 64).drop (fl p n).length) :: Rs fh 1 qb.1 qb.2 ((fl q 64).drop (fl q n).length) :: J) (sl fh 1 152 r.1 r.2 (fl g n) :: H)) (fun x => 64 - x.1) (0, (ad, cap), (ad2, cap2), none, 0) (by simp) rfl (fun _ h => h) fun ⟨n, qa, qb, r⟩ hn => ?_
  dsimp only at hn
  dsimp only
  have hlr : (fl g n).length ≤ 64 := Nat.le_trans fl_len hn
  have hla : ((fl p 64).drop (fl p n).length).length ≤ 64 := by have := fl_len (g := p) (n := 64); rw [List.length_drop]; omega
  have hlb : ((fl q 64).drop (fl q n).length).length ≤ 64 := by have := fl_len (g := q) (n := 64); rw [List.length_drop]; omega
  generalize ha : (fl p 64).drop (fl p n).length = la at *
  generalize hb : (fl q 64).drop (fl q n).length = lb at *
  rcases la with _ | ⟨x, la⟩ <;> rcases lb with _ | ⟨y, lb⟩
  · refine go ?_
    have hz : ∀ y, n ≤ y → y < 64 → g y = false := fun y h1 h2 => by rw [← hg]; simp only [fl_nil hn ha y h1 h2, fl_nil hn hb y h1 h2, Bool.or_self]
    rw [← fl_same hn hz]
    exact rt r trivial rfl (fun _ h => h.ent fun _ j => j.2.2)
  · have e0 : (([] : List Nat)).length = 0 := rfl
    have e1 : (y :: lb).length = lb.length + 1 := rfl
    obtain ⟨b1, b2, b3, b4, b5, b6⟩ := fl_rest hn hb
    have a4 := fl_nil hn ha
    have hA1 : fl p (y + 1) = fl p n := fl_same (by omega) fun z h1 h2 => a4 z h1 (by omega)
    have hG : fl g (y + 1) = fl g n ++ [y] := fl_g hg b1 (fun z h1 h2 => a4 z h1 (by omega)) b4 (by rw [b3, Bool.or_true])
    refine go ?_
    intro ua
    refine cg cArOr1 fun _ _ c r2 => ?_
    rw [sub_tail]
    exact en (y + 1, qa, ua, r2) ⟨by dsimp only; omega, by dsimp only; omega⟩ (by simp [hA1, ha, b5, hG]) (fun _ h => by rw [hA1, ha, b5, hG]; exact h.ent fun _ j => ⟨j.2.1, j.1, j.2.2.2⟩)
  · have e0 : (([] : List Nat)).length = 0 := rfl
    have e1 : (x :: la).length = la.length + 1 := rfl
    obtain ⟨a1, a2, a3, a4, a5, a6⟩ := fl_rest hn ha
    have b4 := fl_nil hn hb
    have hB1 : fl q (x + 1) = fl q n := fl_same (by omega) fun z h1 h2 => b4 z h1 (by omega)
    have hG : fl g (x + 1) = fl g n ++ [x] := fl_g hg a1 a4 (fun z h1 h2 => b4 z h1 (by omega)) (by rw [a3, Bool.true_or])
    refine go ?_
    intro ua
    refine cg cArOr1 fun _ _ c r2 => ?_
    rw [sub_tail]
    exact en (x + 1, ua, qb, r2) ⟨by dsimp only; omega, by dsimp only; omega⟩ (by simp [hB1, hb, a5, hG]) (fun _ h => by rw [hB1, hb, a5, hG]; exact h.ent fun _ j => ⟨j.1, j.2.2.1, j.2.2.2⟩)
  · have e1 : (x :: la).length = la.length + 1 := rfl
    have e2 : (y :: lb).length = lb.length + 1 := rfl
    have e3 : (x :: la)[0] = x := rfl
    have e4 : (y :: lb)[0] = y := rfl
    obtain ⟨a1, a2, a3, a4, a5, a6⟩ := fl_rest hn ha
    obtain ⟨b1, b2, b3, b4, b5, b6⟩ := fl_rest hn hb
    rcases Nat.lt_trichotomy x y with hxy | hxy | hxy
    all_goals
      refine go ?_
      rw [show decide (0 < ((x :: la).length : Int)) = true from decide_eq_true (by omega), show decide (((y :: lb).length : Int) = 0) = false from decide_eq_false (by omega)]
      refine go ?_
      rw [show decide (0 < ((y :: lb).length : Int)) = true from decide_eq_true (by omega), show decide (((x :: la).length : Int) = 0) = false from decide_eq_false (by omega)]
      refine go ?_
      rw [List.getElem_cons_zero, List.getElem_cons_zero]
    · have hB1 : fl q (x + 1) = fl q n := fl_same (by omega) fun z h1 h2 => b4 z h1 (by omega)
      have hG : fl g (x + 1) = fl g n ++ [x] := fl_g hg a1 a4 (fun z h1 h2 => b4 z h1 (by omega)) (by rw [a3, Bool.true_or])
      refine ⟨fun hle => ?_, fun hle => by exfalso; omega⟩
      refine go ?_
      intro ua
      refine cg cArOr1 fun _ _ c r2 => ?_
      rw [sub_tail]
      exact en (x + 1, ua, qb, r2) ⟨by dsimp only; omega, by dsimp only; omega⟩ (by simp [hB1, hb, a5, hG]) (fun _ h => by rw [hB1, hb, a5, hG]; exact h.ent fun _ j => ⟨j.1, j.2.2.1, j.2.2.2⟩)
    · subst hxy
      have hG : fl g (x + 1) = fl g n ++ [x] := fl_g hg a1 a4 b4 (by rw [a3, Bool.true_or])
      refine ⟨fun hle => ?_, fun hle => by exfalso; omega⟩
      refine go ?_
      intro ua ub
      refine cg cArOr1 fun _ _ c r2 => ?_
      rw [sub_tail, sub_tail]
      exact en (x + 1, ua, ub, r2) ⟨by dsimp only; omega, by dsimp only; omega⟩ (by simp [b5, a5, hG]) (fun _ h => by rw [b5, a5, hG]; exact h.ent fun _ j => ⟨j.2.1, j.1, j.2.2.2.2⟩)
    · have hA1 : fl p (y + 1) = fl p n := fl_same (by omega) fun z h1 h2 => a4 z h1 (by omega)
      have hG : fl g (y + 1) = fl g n ++ [y] := fl_g hg b1 (fun z h1 h2 => a4 z h1 (by omega)) b4 (by rw [b3, Bool.or_true])
      refine ⟨fun hle => by exfalso; omega, fun hle => ?_⟩
      refine go ?_
      intro ua
      refine cg cArOr1 fun _ _ c r2 => ?_
      rw [sub_tail]
      exact en (y + 1, qa, ua, r2) ⟨by dsimp only; omega, by dsimp only; omega⟩ (by simp [hA1, ha, b5, hG]) (fun _ h => by rw [hA1, ha, b5, hG]; exact h.ent fun _ j => ⟨j.2.1, j.1, j.2.2.2⟩)
theorem cAOr (hJ : Ent J (Rs fh 1 ad cap (fl p 64)) := by exact jA) (hJ2 : Ent J (Rs fh 1 ad2 cap2 (fl q 64)) := by exact jA) :
    Tr TP 268 [.slice ad (fl p 64).length cap, .slice ad2 (fl q 64).length cap2] (Ctx J H) (fun r : Q2 => .slice r.1 (fl (fun i => p i || q i) 64).length r.2) (fun _ => True) (fun r => Ctx J (sl fh 1 152 r.1 r.2 (fl (fun i => p i || q i) 64) :: H)) := by
  refine en0 Tryz.func268 rfl rfl rfl (go ?_)
  refine cg (cMerge hJ hJ2) fun r _ => ?_
  exact rt r trivial rfl (fun _ h => h)
end
end
end Go.Proofs.YtimemehaccgmmaaGreatDoor
namespace Go.Proofs.YtimemehaccgmmaaGreatDoor
open Go.RowKit
set_option maxRecDepth 100000
set_option linter.unusedVariables false
set_option linter.unusedSimpArgs false
noncomputable section
section
variable {J : List (World → Prop)} {H : List RC} {p q : Nat → Bool} {ad ad2 : Option Addr} {cap cap2 : Nat}
theorem cROr (hp : P60 p) (hq : P60 q) (hJ : Ent J (Rs fR 2 ad cap (rn p)) := by exact jA) (hJ2 : Ent J (Rs fR 2 ad2 cap2 (rn q)) := by exact jA) :
    Tr TP 270 [.slice ad (rn p).length cap, .slice ad2 (rn q).length cap2] (Ctx J H) (fun r : Q2 => .slice r.1 (rn (fun i => p i || q i)).length r.2) (fun _ => True) (fun r => Ctx J (sl fR 2 297 r.1 r.2 (rn (fun i => p i || q i)) :: H)) := by
  refine en0 Tryz.func270 rfl rfl rfl (go ?_)
  refine ca (cRow hJ hp) fun x _ => ?_
  refine fz (go ?_)
  refine ca (cRow (hJ := fun w j => hJ2 w j.2) hq) fun y _ => ?_
  refine fz (go ?_)
  refine cg (cEdges (f := fun a b => a || b) rfl cROr1 hp hq je1 je0) fun r _ => ?_
  exact rt r trivial rfl (fun _ h => h.ent fun _ j => j.2.2)
theorem cRAn (hp : P60 p) (hq : P60 q) (hJ : Ent J (Rs fR 2 ad cap (rn p)) := by exact jA) (hJ2 : Ent J (Rs fR 2 ad2 cap2 (rn q)) := by exact jA) :
    Tr TP 287 [.slice ad (rn p).length cap, .slice ad2 (rn q).length cap2] (Ctx J H) (fun r : Q2 => .slice r.1 (rn (fun i => p i && !q i)).length r.2) (fun _ => True) (fun r => Ctx J (sl fR 2 297 r.1 r.2 (rn (fun i => p i && !q i)) :: H)) := by
  refine en0 Tryz.func287 rfl rfl rfl (go ?_)
  refine ca (cRow hJ hp) fun x _ => ?_
  refine fz (go ?_)
  refine ca (cRow (hJ := fun w j => hJ2 w j.2) hq) fun y _ => ?_
  refine fz (go ?_)
  refine cg (cEdges (f := fun a b => a && !b) rfl cRAn1 hp hq je1 je0) fun r _ => ?_
  exact rt r trivial rfl (fun _ h => h.ent fun _ j => j.2.2)
end
end
end Go.Proofs.YtimemehaccgmmaaGreatDoor
namespace Go.Proofs.YtimemehaccgmmaaGreatDoor
open Go.RowKit
set_option maxRecDepth 100000
set_option linter.unusedVariables false
set_option linter.unusedSimpArgs false
noncomputable section
abbrev AaT (F : FuncId) (f : Bool → Bool → Bool) : Prop := ∀ {J H} {p q : Nat → Bool} {ad ad2 : Option Addr} {cap cap2 : Nat}, Ent J (Rs fh 1 ad cap (fl p 64)) → Ent J (Rs fh 1 ad2 cap2 (fl q 64)) → Tr TP F [.slice ad (fl p 64).length cap, .slice ad2 (fl q 64).length cap2] (Ctx J H) (fun r : Q2 => .slice r.1 (fl (fun i => f (p i) (q i)) 64).length r.2) (fun _ => True) (fun r => Ctx J (sl fh 1 152 r.1 r.2 (fl (fun i => f (p i) (q i)) 64) :: H))
abbrev WwT (F : FuncId) (f : Bool → Bool → Bool) : Prop := ∀ {J H} {p q : Nat → Bool} {ad ad2 : Option Addr} {cap cap2 : Nat}, Ent J (Rs fw 1 ad cap (wl (bm p 64))) → Ent J (Rs fw 1 ad2 cap2 (wl (bm q 64))) → Tr TP F [.slice ad 1024 cap, .slice ad2 1024 cap2] (Ctx J H) (fun r : Q2 => .slice r.1 1024 r.2) (fun _ => True) (fun r => Ctx J (sl fw 1 111 r.1 r.2 (wl (bm (fun i => f (p i) (q i)) 64)) :: H))
abbrev RrT (F : FuncId) (f : Bool → Bool → Bool) : Prop := ∀ {J H} {p q : Nat → Bool} {ad ad2 : Option Addr} {cap cap2 : Nat}, P60 p → P60 q → Ent J (Rs fR 2 ad cap (rn p)) → Ent J (Rs fR 2 ad2 cap2 (rn q)) → Tr TP F [.slice ad (rn p).length cap, .slice ad2 (rn q).length cap2] (Ctx J H) (fun r : Q2 => .slice r.1 (rn (fun i => f (p i) (q i))).length r.2) (fun _ => True) (fun r => Ctx J (sl fR 2 297 r.1 r.2 (rn (fun i => f (p i) (q i))) :: H))
section
variable {J : List (World → Prop)} {H : List RC} {p q g : Nat → Bool} {k k2 : Nat} {s s2 : Q2}
set_option maxHeartbeats 2000000 in
theorem cDo {A W R : FuncId} {f : Bool → Bool → Bool} (hf : f false false = false) (hAa : k = 3 ∨ AaT A f) (hW : WwT W f) (hR : RrT R f) (hk : k = 0 ∨ k = 1 ∨ k = 3) (hk2 : k2 = 0 ∨ k2 = 1 ∨ k2 = 3) (hp : P60 p) (hq : P60 q) (hT : Ent J TabT) (hJ : Ent J (cF k s p)) (hJ2 : Ent J (cF k2 s2 q)) :
    Tr TP 271 [.agg ⟨[.func (.func A) #[] #[], .func (.func W) #[] #[], .func (.func R) #[] #[]]⟩, .agg ⟨cC k s p⟩, .agg ⟨cC k2 s2 q⟩] (Ctx J H) (fun r : Q2 => .agg ⟨cC (cn (fun i => f (p i) (q i))) r (fun i => f (p i) (q i))⟩) (fun _ => True) (fun r => Ctx (cF (cn (fun i => f (p i) (q i))) r (fun i => f (p i) (q i)) :: J) H) := by
  have hpq : P60 (fun i => f (p i) (q i)) := fun i hi => by simp only [hp i hi, hq i hi, hf]
  obtain rfl | rfl | rfl := hk <;> obtain rfl | rfl | rfl := hk2
  · obtain ha | ha := hAa
    · omega
    refine en0 Tryz.func271 rfl rfl rfl (cF0 hJ fun e => cF0 hJ2 fun e2 => go ?_)
    subst e
    subst e2
    intro a b c d
    refine cg (cKind (k := 0) (s := s) (p := fun _ => false) (by omega)) fun _ _ => ?_
    refine cg (cKind (k := 0) (s := s2) (p := fun _ => false) (by omega)) fun _ _ => ?_
    refine ca (ha (p := fun _ => false) (ad := none) (cap := 0) (q := fun _ => false) (ad2 := none) (cap2 := 0) (by rw [fl0]; exact rNl) (by rw [fl0]; exact rNl)) fun r _ => ?_
    refine fz (go ?_)
    refine cg (cCan (k := 1) (s := r) (p := fun i => f ((fun _ => false) i) ((fun _ => false) i)) ⟨by omega, by omega⟩ hpq (fun w j => hT w j.2) je0) fun r2 _ => ?_
    exact rv r2 trivial (fun _ h => ((((h.drp 0).drp 0).drp 0).drp 0).ent fun _ j => ⟨j.1, j.2.2⟩)
  · obtain ha | ha := hAa
    · omega
    refine en0 Tryz.func271 rfl rfl rfl (cF0 hJ fun e => go ?_)
    subst e
    intro a b c d
    refine cg (cKind (k := 0) (s := s) (p := fun _ => false) (by omega)) fun _ _ => ?_
    refine cg (cKind (k := 1) (s := s2) (p := q) (by omega)) fun _ _ => ?_
    refine ca (ha (p := fun _ => false) (ad := none) (cap := 0) (by rw [fl0]; exact rNl) hJ2) fun r _ => ?_
    refine fz (go ?_)
    refine cg (cCan (k := 1) (s := r) (p := fun i => f ((fun _ => false) i) ((q) i)) ⟨by omega, by omega⟩ hpq (fun w j => hT w j.2) je0) fun r2 _ => ?_
    exact rv r2 trivial (fun _ h => ((((h.drp 0).drp 0).drp 0).drp 0).ent fun _ j => ⟨j.1, j.2.2⟩)
  · refine en0 Tryz.func271 rfl rfl rfl (cF0 hJ fun e => go ?_)
    intro a b c d
    refine cg (cKind (k := 0) (s := s) (p := p) (by omega)) fun _ _ => ?_
    refine cg (cKind (k := 3) (s := s2) (p := q) (by omega)) fun _ _ => ?_
    refine ca (cWords (k := 0) (s := s) (p := p) (by omega) hp hJ) fun r _ => ?_
    refine And.intro af (fzd (go ?_))
    refine ca (cWords (k := 3) (s := s2) (p := q) (by omega) hq (fun w j => hJ2 w j.2)) fun r2 _ => ?_
    refine And.intro af (fzd (go ?_))
    refine ca (hW je1 je0) fun r3 _ => ?_
    refine And.intro af (fzd (go ?_))
    refine cg (cCan (k := 2) (s := r3) (p := fun i => f (p i) (q i)) ⟨by omega, by omega⟩ hpq (fun w j => hT w j.2.2.2) je0) fun r4 _ => ?_
    exact rv r4 trivial (fun _ h => ((((h.drp 0).drp 0).drp 0).drp 0).ent fun _ j => ⟨j.1, j.2.2.2.2⟩)
  · obtain ha | ha := hAa
    · omega
    refine en0 Tryz.func271 rfl rfl rfl (cF0 hJ2 fun e2 => go ?_)
    subst e2
    intro a b c d
    refine cg (cKind (k := 1) (s := s) (p := p) (by omega)) fun _ _ => ?_
    refine cg (cKind (k := 0) (s := s2) (p := fun _ => false) (by omega)) fun _ _ => ?_
    refine ca (ha (q := fun _ => false) (ad2 := none) (cap2 := 0) hJ (by rw [fl0]; exact rNl)) fun r _ => ?_
    refine fz (go ?_)
    refine cg (cCan (k := 1) (s := r) (p := fun i => f ((p) i) ((fun _ => false) i)) ⟨by omega, by omega⟩ hpq (fun w j => hT w j.2) je0) fun r2 _ => ?_
    exact rv r2 trivial (fun _ h => ((((h.drp 0).drp 0).drp 0).drp 0).ent fun _ j => ⟨j.1, j.2.2⟩)
  · obtain ha | ha := hAa
    · omega
    refine en0 Tryz.func271 rfl rfl rfl (go ?_)
    intro a b c d
    refine cg (cKind (k := 1) (s := s) (p := p) (by omega)) fun _ _ => ?_
    refine cg (cKind (k := 1) (s := s2) (p := q) (by omega)) fun _ _ => ?_
    refine ca (ha hJ hJ2) fun r _ => ?_
    refine fz (go ?_)
    refine cg (cCan (k := 1) (s := r) (p := fun i => f ((p) i) ((q) i)) ⟨by omega, by omega⟩ hpq (fun w j => hT w j.2) je0) fun r2 _ => ?_
    exact rv r2 trivial (fun _ h => ((((h.drp 0).drp 0).drp 0).drp 0).ent fun _ j => ⟨j.1, j.2.2⟩)
  · refine en0 Tryz.func271 rfl rfl rfl (go ?_)
    intro a b c d
    refine cg (cKind (k := 1) (s := s) (p := p) (by omega)) fun _ _ => ?_
    refine cg (cKind (k := 3) (s := s2) (p := q) (by omega)) fun _ _ => ?_
    refine ca (cWords (k := 1) (s := s) (p := p) (by omega) hp hJ) fun r _ => ?_
    refine And.intro af (fzd (go ?_))
    refine ca (cWords (k := 3) (s := s2) (p := q) (by omega) hq (fun w j => hJ2 w j.2)) fun r2 _ => ?_
    refine And.intro af (fzd (go ?_))
    refine ca (hW je1 je0) fun r3 _ => ?_
    refine And.intro af (fzd (go ?_))
    refine cg (cCan (k := 2) (s := r3) (p := fun i => f (p i) (q i)) ⟨by omega, by omega⟩ hpq (fun w j => hT w j.2.2.2) je0) fun r4 _ => ?_
    exact rv r4 trivial (fun _ h => ((((h.drp 0).drp 0).drp 0).drp 0).ent fun _ j => ⟨j.1, j.2.2.2.2⟩)
  · refine en0 Tryz.func271 rfl rfl rfl (cF0 hJ2 fun e2 => go ?_)
    intro a b c d
    refine cg (cKind (k := 3) (s := s) (p := p) (by omega)) fun _ _ => ?_
    refine ca (cWords (k := 3) (s := s) (p := p) (by omega) hp hJ) fun r _ => ?_
    refine And.intro af (fzd (go ?_))
    refine ca (cWords (k := 0) (s := s2) (p := q) (by omega) hq (fun w j => hJ2 w j.2)) fun r2 _ => ?_
    refine And.intro af (fzd (go ?_))
    refine ca (hW je1 je0) fun r3 _ => ?_
    refine And.intro af (fzd (go ?_))
    refine cg (cCan (k := 2) (s := r3) (p := fun i => f (p i) (q i)) ⟨by omega, by omega⟩ hpq (fun w j => hT w j.2.2.2) je0) fun r4 _ => ?_
    exact rv r4 trivial (fun _ h => ((((h.drp 0).drp 0).drp 0).drp 0).ent fun _ j => ⟨j.1, j.2.2.2.2⟩)
  · refine en0 Tryz.func271 rfl rfl rfl (go ?_)
    intro a b c d
    refine cg (cKind (k := 3) (s := s) (p := p) (by omega)) fun _ _ => ?_
    refine ca (cWords (k := 3) (s := s) (p := p) (by omega) hp hJ) fun r _ => ?_
    refine And.intro af (fzd (go ?_))
    refine ca (cWords (k := 1) (s := s2) (p := q) (by omega) hq (fun w j => hJ2 w j.2)) fun r2 _ => ?_
    refine And.intro af (fzd (go ?_))
    refine ca (hW je1 je0) fun r3 _ => ?_
    refine And.intro af (fzd (go ?_))
    refine cg (cCan (k := 2) (s := r3) (p := fun i => f (p i) (q i)) ⟨by omega, by omega⟩ hpq (fun w j => hT w j.2.2.2) je0) fun r4 _ => ?_
    exact rv r4 trivial (fun _ h => ((((h.drp 0).drp 0).drp 0).drp 0).ent fun _ j => ⟨j.1, j.2.2.2.2⟩)
  · refine en0 Tryz.func271 rfl rfl rfl (go ?_)
    intro a b c d
    refine cg (cKind (k := 3) (s := s) (p := p) (by omega)) fun _ _ => ?_
    refine ca (hR hp hq hJ hJ2) fun r _ => ?_
    refine fz (go ?_)
    refine cg (cCan (k := 3) (s := r) (p := fun i => f (p i) (q i)) ⟨by omega, by omega⟩ hpq (fun w j => hT w j.2) je0) fun r2 _ => ?_
    exact rv r2 trivial (fun _ h => ((((h.drp 0).drp 0).drp 0).drp 0).ent fun _ j => ⟨j.1, j.2.2⟩)
end
end
end Go.Proofs.YtimemehaccgmmaaGreatDoor
namespace Go.Proofs.YtimemehaccgmmaaGreatDoor
open Go.RowKit
set_option maxRecDepth 100000
set_option linter.unusedVariables false
set_option linter.unusedSimpArgs false
noncomputable section
section
variable {J : List (World → Prop)} {H : List RC} {p q g : Nat → Bool} {k k2 : Nat} {s s2 : Q2} {ad : Option Addr} {cap : Nat} {xs : List Nat}
theorem cOrC (hk : k = 0 ∨ k = 1 ∨ k = 3) (hk2 : k2 = 0 ∨ k2 = 1 ∨ k2 = 3) (hp : P60 p) (hq : P60 q) (hT : Ent J TabT) (hJ : Ent J (cF k s p)) (hJ2 : Ent J (cF k2 s2 q)) :
    Tr TP 217 [.agg ⟨cC k s p⟩, .agg ⟨cC k2 s2 q⟩] (Ctx J H) (fun r : Q2 => .agg ⟨cC (cn (fun i => p i || q i)) r (fun i => p i || q i)⟩) (fun _ => True) (fun r => Ctx (cF (cn (fun i => p i || q i)) r (fun i => p i || q i) :: J) H) := by
  refine en0 Tryz.func217 rfl rfl rfl (go ?_)
  intro a b c
  refine cg (cDo (f := fun a b => a || b) rfl (.inr fun h h2 => cAOr h h2) (fun h h2 => cWOr h h2) (fun h1 h2 h h3 => cROr h1 h2 h h3) hk hk2 hp hq hT hJ hJ2) fun r _ => ?_
  exact rv r trivial (fun _ h => ((h.drp 0).drp 0).drp 0)
theorem cHas {x : Nat} (hk : k = 1 ∨ k = 3) (hp : P60 p) (hx0 : p x = true) (hJ : Ent J (cF k s p)) : Tr TP 284 [.agg ⟨cC k s p⟩, .int .u16 x] (Ctx J H) (fun _ : Unit => .bool true) (fun _ => True) (fun _ => Ctx J H) := by
  have hx1 : x < 60 := Nat.lt_of_not_le fun hh => by rw [hp x hh] at hx0; cases hx0
  have key1 : ∀ {J H}, Ent J (cF 1 s p) → Tr TP 330 [.agg ⟨cC 1 s p⟩, .int .u16 x] (Ctx J H) (fun _ : Unit => .bool true) (fun _ => True) (fun _ => Ctx J H) := by
    intro J H hJ
    refine en0 Tryz.func330 rfl rfl rfl (go ?_)
    intro b
    refine ca (cAFind (g := p) (t := x) (by omega) hJ) fun _ _ => ?_
    rw [hx0]
    refine go ?_
    exact rt () trivial rfl (fun _ h => h.rest)
  have key3 : ∀ {J H}, Ent J (cF 3 s p) → Tr TP 332 [.agg ⟨cC 3 s p⟩, .int .u16 x] (Ctx J H) (fun _ : Unit => .bool true) (fun _ => True) (fun _ => Ctx J H) := by
    intro J H hJ
    refine en0 Tryz.func332 rfl rfl rfl (go ?_)
    intro b
    refine cg (cRHas hp hx0 hJ) fun _ _ => ?_
    exact rt () trivial rfl (fun _ h => h.rest)
  obtain rfl | rfl := hk
  · refine en0 Tryz.func284 rfl rfl rfl (go ?_)
    intro b
    refine cg (cKind (k := 1) (s := s) (p := p) (by omega)) fun _ _ => ?_
    refine cg (key1 hJ) fun _ _ => ?_
    exact rt () trivial rfl (fun _ h => h.rest)
  · refine en0 Tryz.func284 rfl rfl rfl (go ?_)
    intro b
    refine cg (cKind (k := 3) (s := s) (p := p) (by omega)) fun _ _ => ?_
    refine cg (key3 hJ) fun _ _ => ?_
    exact rt () trivial rfl (fun _ h => h.rest)
/-- What tells of any of these numbers that it is one to strike. -/
abbrev DelT (g : FuncId) (cb : List Value) (J : List (World → Prop)) (H : List RC) (xs : List Nat) : Prop := ∀ J' H', Ent J' (fun w => allJ J w) → ∀ x ∈ xs, Tr TP g (.int .u16 (x : Nat) :: cb) (Ctx J' H') (fun _ : Unit => .bool true) (fun _ => True) (fun _ => Ctx J' H')
theorem cIxD {F : FuncId} {cb : List Value} (hb : xs.length ≤ 64) (hd : DelT F cb J H xs) : Tr TP 356 [.slice ad xs.length cap, .func (.func F) #[] ⟨cb⟩] (Ctx J (sl fh 1 152 ad cap xs :: H)) (fun _ : Unit => .int .i64 (if xs.length = 0 then -1 else 0)) (fun _ => True) (fun _ => Ctx J (sl fh 1 152 ad cap xs :: H)) := by
  refine en0 Tryz.func356 rfl rfl rfl (go ?_)
  refine lp (X := Unit) (fun _ => True) (fun _ => [(0, .slice ad xs.length cap), (1, .func (.func F) #[] ⟨cb⟩), (7, .int .i64 xs.length), (8, .int .i64 (0 : Nat))]) (fun _ => Ctx J (sl fh 1 152 ad cap xs :: H)) (fun _ => 0) () trivial rfl (fun _ h => h) fun _ _ => ?_
  by_cases h0 : 0 < xs.length
  · rw [if_neg (by omega)]
    refine go ?_
    refine ca (hd _ _ (fun w j => j) xs[0] (List.getElem_mem _)) fun _ _ => ?_
    refine go ?_
    exact rt () trivial rfl (fun _ h => h)
  · rw [if_pos (by omega)]
    refine go ?_
    exact rt () trivial rfl (fun _ h => h)
theorem cDel {F : FuncId} {cb : List Value} (hb : xs.length ≤ 64) (hd : DelT F cb J H xs) : Tr TP 328 [.slice ad xs.length cap, .func (.func F) #[] ⟨cb⟩] (Ctx J (sl fh 1 152 ad cap xs :: H)) (fun r : Q2 => .slice r.1 0 r.2) (fun _ => True) (fun r => Ctx (Rs fh 1 r.1 r.2 [] :: J) H) := by
  refine en0 Tryz.func328 rfl rfl rfl (go ?_)
  refine ca (cIxD hb hd) fun _ _ => ?_
  by_cases h0 : 0 < xs.length
  · rw [if_neg (by omega)]
    refine go ?_
    refine lp (X := Nat) (fun k => 1 ≤ k ∧ k ≤ xs.length) (fun k => [(0, .slice ad xs.length cap), (1, .func (.func F) #[] ⟨cb⟩), (5, .int .i64 (0 : Nat)), (6, .int .i64 k)]) (fun _ => Ctx J (sl fh 1 152 ad cap xs :: H)) (fun k => xs.length - k) 1 (by omega) rfl (fun _ h => h) fun k ⟨hk1, hk⟩ => ?_
    refine go ?_
    refine ⟨fun h => ?_, fun h => ?_⟩
    · refine go ?_
      refine ca (hd _ _ (fun w j => j) (xs[k]'(by omega)) (List.getElem_mem _)) fun _ _ => ?_
      refine go ?_
      exact en (k + 1) (by omega) (by simp)
    · refine go ?_
      refine hA rfl rfl rfl ((qScS (f := fh) (xs := xs) (e := 152) (a := 0) (b := xs.length) rfl rfl rfl rfl rfl ⟨by omega, by omega⟩).os (fun _ h => h.at (k := 0) rfl)) rfl ?_
      refine hs0 rfl rfl (oClS (k := 0) (f := fh) (xs := xs) (e := 152) (a := 0) rfl rfl rfl rfl rfl rfl (by omega) rfl) fun _ _ => ?_
      rw [List.take_zero]
      refine go ?_
      refine hA rfl rfl rfl ((qScS (f := fh) (xs := []) (e := 152) (a := 0) (b := 0) rfl rfl rfl rfl rfl ⟨by omega, by simp⟩).os (fun _ h => h.at (k := 0) rfl)) rfl ?_
      rw [sbA_zero]
      refine go ?_
      refine fz ?_
      exact rt (ad, cap) trivial rfl (fun _ h => h)
  · obtain rfl : xs = [] := List.eq_nil_of_length_eq_zero (by omega)
    rw [if_pos (show ([] : List Nat).length = 0 from rfl)]
    refine go ?_
    refine fz ?_
    exact rt (ad, cap) trivial rfl (fun _ h => h)
end
end
end Go.Proofs.YtimemehaccgmmaaGreatDoor
namespace Go.Proofs.YtimemehaccgmmaaGreatDoor
open Go.RowKit
set_option maxRecDepth 100000
set_option linter.unusedVariables false
set_option linter.unusedSimpArgs false
noncomputable section
/-- No number. -/
abbrev ff : Nat → Bool := fun _ => false
section
variable {J : List (World → Prop)} {H : List RC} {p q g : Nat → Bool} {k k2 b1 b2 : Nat} {s s2 : Q2} {ad : Option Addr} {cap : Nat}
theorem cAn2 {x : Nat} (hk2 : k2 = 1 ∨ k2 = 3) (hq : P60 q) (hx0 : q x = true) (h1 : Ent J (pt b2 232 (cC k2 s2 q)).A) (hJ : Ent J (cF k2 s2 q)) : Tr TP 283 [.int .u16 x, pb b2] (Ctx J H) (fun _ : Unit => .bool false) (fun _ => True) (fun _ => Ctx J H) := by
  refine en0 Tryz.func283 rfl rfl rfl (addJ h1 (go ?_))
  refine cg (cHas hk2 hq hx0 (fun w j => hJ w j.2)) fun _ _ => ?_
  exact rt () trivial rfl (fun _ h => h.ent fun _ j => j.2)
theorem cSf1 {x : Nat} (hk2 : k2 = 1 ∨ k2 = 3) (hq : P60 q) (hx0 : q x = true) (h0 : Ent J (pt b1 388 [.func (.func 283) #[] #[pb b2]]).A) (h1 : Ent J (pt b2 232 (cC k2 s2 q)).A) (hJ : Ent J (cF k2 s2 q)) : Tr TP 329 [.int .u16 x, pb b1] (Ctx J H) (fun _ : Unit => .bool true) (fun _ => True) (fun _ => Ctx J H) := by
  refine en0 Tryz.func329 rfl rfl rfl (addJ h0 (go ?_))
  refine cg (cAn2 hk2 hq hx0 (fun w j => h1 w j.2) (fun w j => hJ w j.2)) fun _ _ => ?_
  exact rt () trivial rfl (fun _ h => h.ent fun _ j => j.2)
theorem cSift (hk2 : k2 = 1 ∨ k2 = 3) (hp : P60 p) (hq : P60 q) (hsub : ∀ x, p x = true → q x = true) (hT : Ent J TabT) (hJa : Ent J (Rs fh 1 ad cap (fl p 64))) (h1 : Ent J (pt b2 232 (cC k2 s2 q)).A) (hJ : Ent J (cF k2 s2 q)) :
    Tr TP 282 [.slice ad (fl p 64).length cap, .func (.func 283) #[] #[pb b2]] (Ctx J H) (fun r : Q2 => .agg ⟨cC (cn ff) r ff⟩) (fun _ => True) (fun r => Ctx (cF (cn ff) r ff :: J) H) := by
  have hl := fl_len (g := p) (n := 64)
  refine en0 Tryz.func282 rfl rfl rfl (go ?_)
  intro b c
  refine ca (cloneH (hJ := hJa)) fun r _ => ?_
  refine fr 2 rfl (fzp (go ?_))
  refine ca (cDel (cb := [pb b]) hl fun J' H' hJ' x hm => cSf1 hk2 hq (hsub x (mem_fl.1 hm).2) (fun w j => (hJ' w j).1) (fun w j => h1 w (hJ' w j).2) (fun w j => hJ w (hJ' w j).2)) fun r2 _ => ?_
  refine go ?_
  refine cg (cCan (k := 1) (s := r2) (p := ff) ⟨by omega, by omega⟩ (fun _ _ => rfl) (fun w j => hT w j.2.2) (fun w j => by show Rs fh 1 r2.1 r2.2 (fl ff 64) w; rw [fl0]; exact j.1)) fun r3 _ => ?_
  exact rv r3 trivial (fun _ h => (h.drp 0).ent fun _ j => ⟨j.1, j.2.2.2⟩)
theorem cAnC (hk : k = 0 ∨ k = 1 ∨ k = 3) (hk2 : k2 = 1 ∨ k2 = 3) (hp : P60 p) (hq : P60 q) (hsub : ∀ x, p x = true → q x = true) (hT : Ent J TabT) (hJ : Ent J (cF k s p)) (hJ2 : Ent J (cF k2 s2 q)) :
    Tr TP 235 [.agg ⟨cC k s p⟩, .agg ⟨cC k2 s2 q⟩] (Ctx J H) (fun r : Q2 => .agg ⟨cC (cn ff) r ff⟩) (fun _ => True) (fun r => Ctx (cF (cn ff) r ff :: J) H) := by
  obtain rfl | rfl | rfl := hk
  · refine en0 Tryz.func235 rfl rfl rfl (cF0 hJ fun e => go ?_)
    intro a b c
    refine cg (cKind (k := 0) (s := s) (p := p) (by omega)) fun _ _ => ?_
    refine frc 1 rfl (fzpc ?_)
    refine cg (cSift (p := ff) (ad := none) (cap := 0) hk2 (fun _ _ => rfl) hq (fun x h => by cases h) (fun w j => hT w j.2) (by rw [fl0]; exact rNl) je0 (fun w j => hJ2 w j.2)) fun r _ => ?_
    exact rv r trivial (fun _ h => ((h.drp 0).drp 0).ent fun _ j => ⟨j.1, j.2.2⟩)
  · refine en0 Tryz.func235 rfl rfl rfl (go ?_)
    intro a b c
    refine cg (cKind (k := 1) (s := s) (p := p) (by omega)) fun _ _ => ?_
    refine frc 1 rfl (fzpc ?_)
    refine cg (cSift hk2 hp hq hsub (fun w j => hT w j.2) (fun w j => hJ w j.2) je0 (fun w j => hJ2 w j.2)) fun r _ => ?_
    exact rv r trivial (fun _ h => ((h.drp 0).drp 0).ent fun _ j => ⟨j.1, j.2.2⟩)
  · have e : (fun i => p i && !q i) = ff := funext fun i => by
      cases h : p i with
      | false => rfl
      | true => rw [hsub i h]; rfl
    refine en0 Tryz.func235 rfl rfl rfl (go ?_)
    intro a b c
    refine cg (cKind (k := 3) (s := s) (p := p) (by omega)) fun _ _ => ?_
    have hd := cDo (J := J) (H := pt c 232 [.int .u8 0, .slice none 0 0, .slice none 0 0, .slice none 0 0] :: pt b 232 (cC k2 s2 q) :: pt a 232 (cC 3 s p) :: H) (A := 285) (f := fun a b => a && !b) rfl (.inl rfl) (fun h h2 => cWAn h h2) (fun h1 h2 h h3 => cRAn h1 h2 h h3) (.inr (.inr rfl)) (.inr hk2) hp hq hT hJ hJ2
    rw [show (fun i => (fun a b => a && !b) (p i) (q i)) = ff from e] at hd
    refine cg hd fun r _ => ?_
    exact rv r trivial (fun _ h => ((h.drp 0).drp 0).drp 0)
end
end
end Go.Proofs.YtimemehaccgmmaaGreatDoor
