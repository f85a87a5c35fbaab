/-
  Parts of the walks and their plain laws (Q4 Q5 S2 S3). No condition.
-/
import Derived.Test.YtimemehaccgmmaaGreatDoorM24
import Derived.Test.YtimemehaccgmmaaGreatDoorM23
namespace Go.Proofs.YtimemehaccgmmaaGreatDoor
open Go.RowKit
set_option maxRecDepth 100000
set_option linter.unusedVariables false
set_option linter.unusedSimpArgs false
noncomputable section
theorem split_app {α : Type} {l T : List α} {t : Nat} (ht : t < l.length) : l ++ T = l.take t ++ (l[t] :: (l.drop (t + 1) ++ T)) := by
  rw [← List.cons_append, ← drop_at ht, ← List.append_assoc (l.take t), List.take_append_drop]
/-- Two ways that meet again. -/
theorem ct2 {P : Program} {n : Fr} {s : List KI} {L : Env} {C : World → Prop} {Q : Exit → Act → World → Prop} {X : Type} {a b : Code} {φ ψ : Prop} (p : X → Prop) (I : X → Env) (CI : X → World → Prop) (h : (φ → HK P n (.code a :: .cut (Ed n p I CI) :: s) L C Q) ∧ (ψ → HK P n (.code b :: .cut (Ed n p I CI) :: s) L C Q)) (h2 : ∀ x, p x → HK P n s (I x) (CI x) Q) :
    (φ → HK P n (.code a :: s) L C Q) ∧ (ψ → HK P n (.code b :: s) L C Q) := ⟨fun e => ct p I CI (h.1 e) h2, fun e => ct p I CI (h.2 e) h2⟩
section
variable {J : List (World → Prop)} {H : List RC} {ad : Option Addr} {cap g N : Nat} {cb : List Value} {S : Rw → Prop} {lt : Rw → Rw → Bool}
/-- What a symMerge does. -/
abbrev SymT (J : List (World → Prop)) (H : List RC) (ad : Option Addr) (cap g N : Nat) (cb : List Value) (S : Rw → Prop) (lt : Rw → Rw → Bool) (z : Nat) : Prop :=
  ∀ (P A B T M : List Rw) (a m b : Nat), A.length + B.length ≤ z → 0 < A.length → 0 < B.length → M = P ++ (A ++ (B ++ T)) → a = P.length → m = a + A.length → b = m + B.length → (∀ x ∈ A ++ B, S x) → Rises lt A → Rises lt B → M.length = N →
    Tr TP 202 [.slice ad N cap, .int .i64 a, .int .i64 m, .int .i64 b, .func (.func g) #[] ⟨cb⟩] (Ctx J (sl fRw 1 61 ad cap M :: H)) (fun _ : List Rw => .tuple #[]) (fun R => Stab lt (A ++ B) R) (fun R => Ctx J (sl fRw 1 61 ad cap (P ++ (R ++ T)) :: H))
set_option maxHeartbeats 8000000 in
theorem symStep (hw : Swo lt) (hc : CmT g cb J S vRw lt) (hl : N ≤ 1000) (z : Nat) (ih : SymT J H ad cap g N cb S lt z) : SymT J H ad cap g N cb S lt (z + 1) := by
  intro P A B T M a m b hz h0A h0B hM ha hm hb hS hrA hrB hN
  have hMl : N = P.length + A.length + B.length + T.length := by rw [← hN, hM]; simp; omega
  rcases (by omega : A.length = 1 ∨ 2 ≤ A.length) with h1 | h1
  · obtain ⟨x, rfl⟩ := List.length_eq_one_iff.1 h1
    exact symLRw hw hc P B T M x hM ha hm hb ⟨hS x (by simp), fun y hy => hS y (by simp [hy])⟩ hrB hN hl
  rcases (by omega : B.length = 1 ∨ 2 ≤ B.length) with h2 | h2
  · obtain ⟨y, rfl⟩ := List.length_eq_one_iff.1 h2
    exact symRRw hw hc P A T M y hM ha hm hb h1 ⟨hS y (by simp), fun x hx' => hS x (by simp [hx'])⟩ hrA hN hl
  have gA : ∀ t (ht : t < A.length) h, M[a + t]'h = A[t] := fun t ht h => by
    have e := split_app (T := B ++ T) ht
    refine g_at (Q := P ++ A.take t) (Z := A.drop (t + 1) ++ (B ++ T)) ?_ (by simp; omega) h
    rw [hM, e]; simp
  have gB : ∀ t (ht : t < B.length) h, M[m + t]'h = B[t] := fun t ht h => by
    have e := split_app (T := T) ht
    refine g_at (Q := P ++ (A ++ B.take t)) (Z := B.drop (t + 1) ++ T) ?_ (by simp; omega) h
    rw [hM, e]; simp
  have gA' : ∀ c (h1 : a ≤ c) (h2 : c < m) h, M[c]'h = A[c - a]'(by omega) := fun c h1 h2 h => by
    have := gA (c - a) (by omega) (by omega)
    rw [← this]; congr 1; omega
  obtain ⟨mid, hmid⟩ : ∃ mid, (a + b) / 2 = mid := ⟨_, rfl⟩
  refine en0 Tryz.func202 rfl rfl rfl (go ?_)
  rw [half, IntWalk.i64_in _ (by omega), hmid]
  rw [show (mid : Int) + (m : Int) = ((mid + m : Nat) : Int) by omega, IntWalk.i64_in _ (by omega)]
  refine ct2 (X := Nat × Nat) (fun x => a ≤ x.1 ∧ x.1 ≤ x.2 ∧ x.2 ≤ m ∧ x.2 ≤ mid ∧ mid + m ≤ x.1 + b ∧ (x.1 = a ∨ x.1 + b = mid + m) ∧ (x.2 = mid ∨ x.2 = m)) (fun (s0, r0) => [(0, .slice ad N cap), (1, .int .i64 a), (2, .int .i64 m), (3, .int .i64 b), (4, .func (.func g) #[] ⟨cb⟩), (18, .int .i64 mid), (19, .int .i64 ((mid + m : Nat) : Int)), (20, .int .i64 s0), (21, .int .i64 r0)])
    (fun _ => Ctx J (sl fRw 1 61 ad cap M :: H)) ⟨fun h3 => ?_, fun h3 => ?_⟩ fun ⟨s0, r0⟩ ⟨p1, p2, p3, p4, p5, p6, p7⟩ => ?_
  · refine go ?_
    rw [show ((mid + m : Nat) : Int) - (b : Int) = ((mid + m - b : Nat) : Int) by omega]
    exact en (mid + m - b, mid) (by dsimp only; omega) rfl (fun _ h => h)
  · refine go ?_
    exact en (a, m) (by dsimp only; omega) rfl (fun _ h => h)
  dsimp only at p1 p2 p3 p4 p5 p6 p7
  refine go ?_
  rw [show ((mid + m : Nat) : Int) - 1 = ((mid + m - 1 : Nat) : Int) by omega]
  refine lp (X := Nat × Nat) (fun x => s0 ≤ x.1 ∧ x.1 ≤ x.2 ∧ x.2 ≤ r0 ∧ (s0 < x.1 → ∀ u v, A[x.1 - 1 - a]? = some u → B[mid - x.1]? = some v → lt v u = false) ∧ (x.2 < r0 → ∀ u v, A[x.2 - a]? = some u → B[mid - 1 - x.2]? = some v → lt v u = true)) (fun (i, j) => [(0, .slice ad N cap), (1, .int .i64 a), (2, .int .i64 m), (3, .int .i64 b), (4, .func (.func g) #[] ⟨cb⟩), (18, .int .i64 mid), (19, .int .i64 ((mid + m : Nat) : Int)), (20, .int .i64 i), (21, .int .i64 j), (22, .int .i64 ((mid + m - 1 : Nat) : Int))])
    (fun _ => Ctx J (sl fRw 1 61 ad cap M :: H)) (fun x => x.2 - x.1) (s0, r0) ⟨Nat.le_refl _, p2, Nat.le_refl _, fun h => absurd h (by simp), fun h => absurd h (by simp)⟩ rfl (fun _ h => h) fun ⟨i, j⟩ ⟨q1, q2, q3, q4, q5⟩ => ?_
  dsimp only at q1 q2 q3 q4 q5
  refine go ?_
  refine ⟨fun h3 => ?_, fun h3 => ?_⟩
  · have hlt : i < j := by omega
    refine go ?_
    obtain ⟨c0, hc0⟩ : ∃ c0, (i + j) / 2 = c0 ∧ i ≤ c0 ∧ c0 < j := ⟨(i + j) / 2, by omega⟩
    rw [half, IntWalk.i64_in (((i + j) / 2 : Nat) : Int) (by omega), hc0.1]
    refine go ?_
    rw [show ((mid + m - 1 : Nat) : Int) - (c0 : Int) = ((m + (mid - 1 - c0) : Nat) : Int) by omega, IntWalk.i64_in ((m + (mid - 1 - c0) : Nat) : Int) (by omega)]
    refine go ?_
    rw [gA' c0 (by omega) (by omega), gB _ (by omega)]
    refine cg (hc (fun w j => j) B[mid - 1 - c0] A[c0 - a] (hS _ (by simp)) (hS _ (by simp))) fun c hc' => ?_
    refine ⟨fun h4 => ?_, fun h4 => ?_⟩
    · refine go ?_
      refine en (c0 + 1, j) ⟨⟨by dsimp only; omega, by dsimp only; omega, q3, fun _ u v hu hv => ?_, q5⟩, by dsimp only; omega⟩ rfl (fun _ h => h)
      rw [show c0 + 1 - 1 - a = c0 - a by omega] at hu
      rw [show mid - (c0 + 1) = mid - 1 - c0 by omega] at hv
      rw [← at? (by omega) hu, ← at? (by omega) hv]
      cases e : lt B[mid - 1 - c0] A[c0 - a] with
      | false => rfl
      | true => exact absurd (hc'.2 e) h4
    · refine go ?_
      exact en (i, c0) ⟨⟨q1, by dsimp only; omega, by dsimp only; omega, q4, fun _ u v hu hv => by rw [← at? (by omega) hu, ← at? (by omega) hv]; exact hc'.1 h4⟩, by dsimp only; omega⟩ rfl (fun _ h => h)
  obtain rfl : i = j := by omega
  have cut := cut_law hw hrA hrB (d1 := i - a) (d2 := mid - i) (by omega) (by omega) (fun h0 u v hu hv => by
    rcases Nat.lt_or_eq_of_le q1 with h5 | h5
    · exact q4 h5 u v (by rw [← hu]; congr 1; omega) hv
    · rcases p6 with h6 | h6
      · omega
      · rw [List.getElem?_eq_none (by omega)] at hv; cases hv) (fun h0 u v hu hv => by
    rcases Nat.lt_or_eq_of_le q3 with h5 | h5
    · exact q5 h5 u v hu (by rw [← hv]; congr 1; omega)
    · rcases p7 with h6 | h6
      · omega
      · rw [List.getElem?_eq_none (by omega)] at hu; cases hu)
  have eA : A = A.take (i - a) ++ A.drop (i - a) := (List.take_append_drop _ _).symm
  have eB : B = B.take (mid - i) ++ B.drop (mid - i) := (List.take_append_drop _ _).symm
  have lA1 : (A.take (i - a)).length = i - a := by rw [List.length_take]; omega
  have lA2 : (A.drop (i - a)).length = m - i := by rw [List.length_drop]; omega
  have lB1 : (B.take (mid - i)).length = mid - i := by rw [List.length_take]; omega
  have lB2 : (B.drop (mid - i)).length = b - (mid + m - i) := by rw [List.length_drop]; omega
  generalize A.take (i - a) = A1 at cut eA lA1
  generalize A.drop (i - a) = A2 at cut eA lA2
  generalize B.take (mid - i) = B1 at cut eB lB1
  generalize B.drop (mid - i) = B2 at cut eB lB2
  obtain ⟨cut1, cut2⟩ := cut
  clear gA gB gA' q4 q5
  subst eA eB
  have rA := List.pairwise_append.1 hrA
  have rB := List.pairwise_append.1 hrB
  refine adv_sound 8 [] rfl ?_
  refine hs rfl rfl rfl (oWr rfl (IntWalk.i64_in _ (by omega))) fun _ _ => ?_
  refine adv_sound 3 [] rfl ?_
  rw [show ((mid + m : Nat) : Int) - (i : Int) = ((mid + m - i : Nat) : Int) by omega]
  refine ct (X := Unit) (fun _ => True) (fun _ => [(0, .slice ad N cap), (1, .int .i64 a), (3, .int .i64 b), (4, .func (.func g) #[] ⟨cb⟩), (18, .int .i64 mid), (20, .int .i64 i), (24, .int .i64 ((mid + m - i : Nat) : Int))]) (fun _ => Ctx J (sl fRw 1 61 ad cap (P ++ (A1 ++ (B1 ++ (A2 ++ (B2 ++ T))))) :: H)) ?_ fun _ _ => ?_
  · rcases (by omega : (i < m ∧ i < mid) ∨ m ≤ i ∨ (i < m ∧ mid ≤ i)) with h5 | h5 | h5
    · refine go ?_
      refine cg (rotRw (P ++ A1) A2 B1 (B2 ++ T) M (by rw [hM]; simp) (by simp; omega) (by omega) (by omega) (by omega) (by omega) hN hl) fun _ _ => ?_
      exact en () trivial rfl (fun _ h => by simpa using h)
    · have e0 : A2 = [] := List.eq_nil_of_length_eq_zero (by omega)
      refine go ?_
      exact en () trivial rfl (fun _ h => by rw [hM] at h; subst e0; simpa using h)
    · have e0 : B1 = [] := List.eq_nil_of_length_eq_zero (by omega)
      refine go ?_
      exact en () trivial rfl (fun _ h => by rw [hM] at h; subst e0; simpa using h)
  have hm2 : (P ++ (A1 ++ (B1 ++ (A2 ++ (B2 ++ T))))).length = N := by rw [← hN, hM]; simp; omega
  refine adv_sound 1 [] rfl ?_
  refine ct (X := List Rw) (fun R => Stab lt (A1 ++ B1) R) (fun _ => [(0, .slice ad N cap), (3, .int .i64 b), (4, .func (.func g) #[] ⟨cb⟩), (18, .int .i64 mid), (20, .int .i64 i), (24, .int .i64 ((mid + m - i : Nat) : Int))]) (fun R => Ctx J (sl fRw 1 61 ad cap (P ++ (R ++ (A2 ++ (B2 ++ T)))) :: H)) ?_ fun R1 hR1 => ?_
  · rcases (by omega : (a < i ∧ i < mid) ∨ i ≤ a ∨ (a < i ∧ mid ≤ i)) with h5 | h5 | h5
    · refine go ?_
      refine cg (ih P A1 B1 (A2 ++ (B2 ++ T)) _ a i mid (by simp at hz; omega) (by omega) (by omega) rfl ha (by omega) (by omega) (fun x hx' => hS x (by simp at hx' ⊢; rcases hx' with h | h <;> simp [h])) rA.1 rB.1 hm2) fun R1 hR1 => ?_
      exact en R1 hR1 rfl (fun _ h => h)
    · have e0 : A1 = [] := List.eq_nil_of_length_eq_zero (by omega)
      refine go ?_
      exact en B1 (by subst e0; exact Stab.refl rB.1) rfl (fun _ h => by subst e0; exact h)
    · have e0 : B1 = [] := List.eq_nil_of_length_eq_zero (by omega)
      refine go ?_
      exact en A1 (by subst e0; rw [List.append_nil]; exact Stab.refl rA.1) rfl (fun _ h => by subst e0; exact h)
  have lR1 : R1.length = mid - a := by rw [hR1.len hw]; simp; omega
  have hm3 : (P ++ (R1 ++ (A2 ++ (B2 ++ T)))).length = N := by rw [← hm2]; simp; omega
  have fin : ∀ R2, Stab lt (A2 ++ B2) R2 → Stab lt ((A1 ++ A2) ++ (B1 ++ B2)) (R1 ++ R2) := fun R2 h => stab_cut hw hrA hrB cut1 cut2 hR1 h
  rcases (by omega : (i < m ∧ mid + m - i < b) ∨ m ≤ i ∨ (i < m ∧ b ≤ mid + m - i)) with h5 | h5 | h5
  · refine go ?_
    refine cg (ih (P ++ R1) A2 B2 T _ mid (mid + m - i) b (by simp at hz; omega) (by omega) (by omega) (by simp) (by simp; omega) (by omega) (by omega) (fun x hx' => hS x (by simp at hx' ⊢; rcases hx' with h | h <;> simp [h])) rA.2.1 rB.2.1 hm3) fun R2 hR2 => ?_
    exact rtE _ (fin R2 hR2) rfl (fun _ h => by simpa using h)
  · have e0 : A2 = [] := List.eq_nil_of_length_eq_zero (by omega)
    refine go ?_
    exact rtE _ (fin B2 (by subst e0; exact Stab.refl rB.2.1)) rfl (fun _ h => by subst e0; simpa using h)
  · have e0 : B2 = [] := List.eq_nil_of_length_eq_zero (by omega)
    refine go ?_
    exact rtE _ (fin A2 (by subst e0; rw [List.append_nil]; exact Stab.refl rA.2.1)) rfl (fun _ h => by subst e0; simpa using h)
end
end
end Go.Proofs.YtimemehaccgmmaaGreatDoor
namespace Go.Proofs.YtimemehaccgmmaaGreatDoor
open Go.RowKit
set_option maxRecDepth 100000
set_option linter.unusedVariables false
set_option linter.unusedSimpArgs false
noncomputable section
section
variable {J : List (World → Prop)} {H : List RC} {ad : Option Addr} {cap g N : Nat} {cb : List Value} {S : Rw → Prop} {lt : Rw → Rw → Bool}
theorem symAll (hw : Swo lt) (hc : CmT g cb J S vRw lt) (hl : N ≤ 1000) : ∀ z, SymT J H ad cap g N cb S lt z
  | 0 => fun P A B T M a m b hz h0A => by omega
  | z + 1 => symStep hw hc hl z (symAll hw hc hl z)
set_option maxHeartbeats 8000000 in
theorem stabRw (hw : Swo lt) (hc : CmT g cb J S vRw lt) (xs : List Rw) (hN : xs.length = N) (hl : N ≤ 1000) (hS : ∀ x ∈ xs, S x) :
    Tr TP 125 [.slice ad N cap, .int .i64 N, .func (.func g) #[] ⟨cb⟩] (Ctx J (sl fRw 1 61 ad cap xs :: H)) (fun _ : List Rw => .tuple #[]) (fun R => Stab lt xs R) (fun R => Ctx J (sl fRw 1 61 ad cap R :: H)) := by
  refine en0 Tryz.func125 rfl rfl rfl (go ?_)
  refine lp (X := List Rw × List Rw × List Rw) (fun x => xs = x.1 ++ x.2.1 ∧ Ful lt 20 x.1 x.2.2) (fun (Xd, Xt, D) => [(0, .slice ad N cap), (1, .int .i64 N), (2, .func (.func g) #[] ⟨cb⟩), (6, .int .i64 20), (7, .int .i64 D.length), (8, .int .i64 ((D.length + 20 : Nat) : Int))])
    (fun (Xd, Xt, D) => Ctx J (sl fRw 1 61 ad cap (D ++ Xt) :: H)) (fun x => x.2.1.length) ([], xs, []) ⟨rfl, Ful.nil⟩ rfl (fun _ h => h) fun ⟨Xd, Xt, D⟩ ⟨hx1, hF⟩ => ?_
  dsimp only at hx1 hF
  have hDl := hF.len
  have hml : (D ++ Xt).length = N := by rw [← hN, hx1]; simp; omega
  have hml2 : D.length + Xt.length = N := by rw [← hml]; simp
  refine go ?_
  refine ⟨fun h1 => ?_, fun h1 => ?_⟩
  · obtain ⟨X1, X2, rfl, hX1⟩ := cut_len Xt 20 (by omega)
    refine go ?_
    refine cg (insRw (a := D.length) (b := D.length + 20) hw hc X1 D X2 _ rfl rfl (by omega) (fun x hx' => hS x (by rw [hx1]; simp [hx'])) hml hl) fun R hR => ?_
    have hRl := hR.len hw
    exact en (Xd ++ X1, X2, D ++ R) ⟨⟨by simp [hx1], Ful.snoc hF hX1 (by omega) hR⟩, by simp; omega⟩ (by simp [hRl, hX1]) (fun _ h => by simpa using h)
  refine go ?_
  refine cg (insRw (a := D.length) (b := N) hw hc Xt D [] _ (by simp) rfl (by omega) (fun x hx' => hS x (by rw [hx1]; simp [hx'])) hml hl) fun R hR => ?_
  have hB0 : Blk lt 20 xs (D ++ R) := by
    rw [hx1]
    exact hF.blk (Blk.last (by omega) (hR.len hw) hR)
  refine lp (X := Nat × List Rw) (fun x => 0 < x.1 ∧ x.1 ≤ 2000 ∧ Blk lt x.1 xs x.2) (fun (bs, L) => [(0, .slice ad N cap), (1, .int .i64 N), (2, .func (.func g) #[] ⟨cb⟩), (6, .int .i64 bs)])
    (fun (bs, L) => Ctx J (sl fRw 1 61 ad cap L :: H)) (fun x => 2000 - x.1) (20, D ++ R) ⟨by dsimp only; omega, by dsimp only; omega, hB0⟩ rfl (fun _ h => by simpa using h) fun ⟨bs, L⟩ ⟨hbs, hbs2, hB⟩ => ?_
  dsimp only at hbs hbs2 hB
  clear hB0 hR hml hml2 hF hDl hx1 h1
  have hLl : L.length = N := by rw [hB.len, hN]
  refine go ?_
  refine ⟨fun h1 => ?_, fun h1 => ?_⟩
  · refine go ?_
    refine lp (X := List Rw × List Rw × List Rw × List Rw) (fun x => xs = x.1 ++ x.2.2.1 ∧ Ful lt (2 * bs) x.1 x.2.1 ∧ Blk lt bs x.2.2.1 x.2.2.2) (fun (X1, D1, X2, L2) => [(0, .slice ad N cap), (1, .int .i64 N), (2, .func (.func g) #[] ⟨cb⟩), (6, .int .i64 bs), (7, .int .i64 D1.length), (8, .int .i64 ((D1.length : Int) + 2 * bs))])
      (fun (X1, D1, X2, L2) => Ctx J (sl fRw 1 61 ad cap (D1 ++ L2) :: H)) (fun x => x.2.2.1.length) ([], [], xs, L) ⟨rfl, Ful.nil, hB⟩ (by simp) (fun _ h => h) fun ⟨X1, D1, X2, L2⟩ ⟨hx1, hF, hB2⟩ => ?_
    dsimp only at hx1 hF hB2
    have hDl := hF.len
    have hL2 := hB2.len
    have hml2 : D1.length + X2.length = N := by rw [← hN, hx1]; simp; omega
    have hml : (D1 ++ L2).length = N := by simp; omega
    refine go ?_
    refine ⟨fun h2 => ?_, fun h2 => ?_⟩
    · obtain ⟨l1, l2, l3, r1, r2, r3, rfl, rfl, e1, e2, s1, e3, s2, e4, e5, b3, e6⟩ := hB2.two hbs (by omega)
      have hl2 : l2.length = bs := by
        rcases Nat.lt_or_eq_of_le e4 with h3 | h3
        · obtain ⟨rfl, -⟩ := e6 h3
          simp at hml2; omega
        · exact h3
      refine go ?_
      rw [show (D1.length : Int) + (bs : Int) = ((D1.length + bs : Nat) : Int) by omega, show (D1.length : Int) + 2 * (bs : Int) = ((D1.length + bs + bs : Nat) : Int) by omega]
      refine cg (symAll hw hc hl (r1.length + r2.length) D1 r1 r2 r3 _ D1.length (D1.length + bs) (D1.length + bs + bs) (Nat.le_refl _) (by omega) (by omega) (by simp) rfl (by omega) (by omega) (fun x hx' => hS x (by rw [hx1]; rcases List.mem_append.1 hx' with h | h; simp [s1.mem hw h]; simp [s2.mem hw h])) s1.1 s2.1 hml) fun R hR => ?_
      have hRl := hR.len hw
      rw [List.length_append] at hRl
      exact en (X1 ++ (l1 ++ l2), D1 ++ R, l3, r3) ⟨⟨by simp [hx1], Ful.snoc hF (by simp; omega) (by omega) (Stab.join s1 s2 hR), b3⟩, by simp; omega⟩ (by simp; omega) (fun _ h => by simpa using h)
    · refine go ?_
      refine ⟨fun h3 => ?_, fun h3 => ?_⟩
      · obtain ⟨l1, l2, l3, r1, r2, r3, rfl, rfl, e1, e2, s1, e3, s2, e4, e5, b3, e6⟩ := hB2.two hbs (by omega)
        have hl2 : l2.length < bs := by simp at hml2; omega
        obtain ⟨rfl, rfl⟩ := e6 hl2
        rw [List.append_nil] at hx1 hB2 hL2 hml hml2
        refine go ?_
        rw [show (D1.length : Int) + (bs : Int) = ((D1.length + bs : Nat) : Int) by omega]
        rw [List.length_append] at hml2
        refine cg (symAll hw hc hl (r1.length + r2.length) D1 r1 r2 [] _ D1.length (D1.length + bs) N (Nat.le_refl _) (by omega) (by omega) (by simp) rfl (by omega) (by omega) (fun x hx' => hS x (by rw [hx1]; rcases List.mem_append.1 hx' with h | h; simp [s1.mem hw h]; simp [s2.mem hw h])) s1.1 s2.1 (by simpa using hml)) fun R hR => ?_
        have hRl := hR.len hw
        rw [List.length_append] at hRl
        refine en (2 * bs, D1 ++ R) ⟨⟨by dsimp only; omega, by dsimp only; omega, ?_⟩, by dsimp only; omega⟩ (by simp; omega) (fun _ h => by simpa using h)
        dsimp only
        rw [hx1]
        exact hF.blk (Blk.last (by simp; omega) (by simp; omega) (Stab.join s1 s2 hR))
      · refine go ?_
        refine en (2 * bs, D1 ++ L2) ⟨⟨by dsimp only; omega, by dsimp only; omega, ?_⟩, by dsimp only; omega⟩ (by simp; omega) (fun _ h => h)
        dsimp only
        rw [hx1]
        exact hF.blk (hB2.short (by omega) (by omega))
  · refine go ?_
    exact rtE L (hB.whole (by omega)) rfl (fun _ h => h)
theorem sortRw (hw : Swo lt) (hc : CmT g cb J S vRw lt) (xs : List Rw) (hN : xs.length = N) (hl : N ≤ 1000) (hS : ∀ x ∈ xs, S x) :
    Tr TP 61 [.slice ad N cap, .func (.func g) #[] ⟨cb⟩] (Ctx J (sl fRw 1 61 ad cap xs :: H)) (fun _ : List Rw => .tuple #[]) (fun R => Stab lt xs R) (fun R => Ctx J (sl fRw 1 61 ad cap R :: H)) := by
  refine en0 Tryz.func61 rfl rfl rfl (go ?_)
  refine cg (stabRw hw hc xs hN hl hS) fun R hR => ?_
  exact rtE R hR rfl (fun _ h => h)
end
end
end Go.Proofs.YtimemehaccgmmaaGreatDoor
namespace Go.Proofs.YtimemehaccgmmaaGreatDoor
open Go.RowKit
set_option maxRecDepth 100000
set_option linter.unusedVariables false
set_option linter.unusedSimpArgs false
noncomputable section
/-- Columns and a configuration that are not too long. -/
structure SOk (l : List Col) (g : Cfg) : Prop where
  bl : l.length ≤ 256
  bi : g.inv.length ≤ 256
  br : g.rng.length ≤ 256
  bs : g.split.length ≤ 256
  bn : ∀ c ∈ l, c.s.size ≤ 9223372036854775807
section
variable {J : List (World → Prop)} {H : List RC} {ad ad2 : Option Addr} {cap cap2 : Nat} {l : List Col} {g : Cfg} {a : CfA}
set_option maxHeartbeats 8000000 in
theorem cFitsB (hb : SOk l g) (hJ : Ent J (Rs fC 2 ad cap l) := by exact jA) (hJ2 : Ent J (Bn (gF' g a)) := by exact jA) :
    Tr TP 58 [.slice ad l.length cap, gA' g a] (Ctx J H) (fun _ : Unit => .bool (fitsB l g)) (fun _ => True) (fun _ => Ctx J H) := by
  have hb1 := hb.bl
  have hb2 := hb.bi
  have hb3 := hb.br
  have hb4 := hb.bs
  refine en0 Tryz.func58 rfl rfl rfl (addS3 hJ2 ?_)
  refine addJ (fun w j => hJ w j.2.2.2.2) ?_
  refine go ?_
  intro b
  refine fzpc ?_
  refine ca (cMayL (hn := hb.bn)) fun _ _ => ?_
  cases hm : mayL l with
  | false =>
    refine go ?_
    rw [show fitsB l g = false by simp [fitsB, hm]]
    exact rt () trivial rfl (fun _ h => h.ent fun _ j => j.2.2.2.2.2.2)
  | true =>
  by_cases hno : g.sort ≠ -1 ∧ dimB l g.sort = false
  · refine go ?_
    refine ca cDim fun _ _ => ?_
    rw [hno.2]
    refine go ?_
    rw [show fitsB l g = false by simp [fitsB, hno.1, hno.2]]
    exact rt () trivial rfl (fun _ h => h.ent fun _ j => j.2.2.2.2.2.2)
  have hs2 : (decide (g.sort = -1) || dimB l g.sort) = true := by
    by_cases h : g.sort = -1
    · simp [h]
    · cases hd : dimB l g.sort
      · exact absurd ⟨h, hd⟩ hno
      · simp
  have e1 : fitsB l g = (flagB l g.inv && (flagB l g.rng && (spT l g.split g.split.length && decide (g.split.length ≤ 8 ∧ 1 ≤ g.leaf ∧ g.leaf ≤ 1000000)))) := by
    unfold fitsB; rw [hm, hs2]; rfl
  rw [e1]
  clear e1 hs2
  rcases (show g.sort = -1 ∨ g.sort ≠ -1 by omega) with hs' | hs'
  case' inl => refine go ?_
  case' inr =>
    refine go ?_
    refine ca cDim fun _ _ => ?_
    rw [show dimB l g.sort = true by
      cases hd : dimB l g.sort
      · exact absurd ⟨hs', hd⟩ hno
      · rfl]
    refine go ?_
  all_goals
    refine ca (cFlag (fl := g.inv)) fun _ _ => ?_
    cases hf1 : flagB l g.inv with
    | false =>
      refine go ?_
      exact rt () trivial rfl (fun _ h => h.ent fun _ j => j.2.2.2.2.2.2)
    | true =>
    refine go ?_
    refine ca (cFlag (fl := g.rng)) fun _ _ => ?_
    cases hf2 : flagB l g.rng with
    | false =>
      refine go ?_
      exact rt () trivial rfl (fun _ h => h.ent fun _ j => j.2.2.2.2.2.2)
    | true =>
    refine go ?_
    refine lp (X := Nat) (fun k => k ≤ g.split.length ∧ spT l g.split k = true) (fun k => [(0, .slice ad l.length cap), (3, pb b), (37, .slice a.s.1 g.split.length a.s.2), (38, .int .i64 g.split.length), (39, .int .i64 k)])
      (fun k => Ctx ((pt b 26 (gC g a)).A :: Rs fC 2 ad cap l :: Rs fB 1 a.i.1 a.i.2 g.inv :: Rs fB 1 a.r.1 a.r.2 g.rng :: Rs fi 1 a.s.1 a.s.2 g.split :: Bn (gF' g a) :: J) H) (fun k => g.split.length - k) 0 ⟨by simp, rfl⟩ rfl (fun _ h => h) fun k ⟨hk, hall⟩ => ?_
    refine go ?_
    refine ⟨fun h1 => ?_, fun h1 => ?_⟩
    · have hk1 : k < g.split.length := by omega
      have e1 : spT l g.split (k + 1) = (dimB l g.split[k] && !decide (g.split[k] ∈ g.split.take k)) := by rw [spT, hall, Bool.true_and]; simp [hk1]
      have hno : spT l g.split (k + 1) = false → (true && (true && (spT l g.split g.split.length && decide (g.split.length ≤ 8 ∧ 1 ≤ g.leaf ∧ g.leaf ≤ 1000000)))) = false := fun h => by rw [spT_no h _ hk1]; rfl
      refine go ?_
      refine ca cDim fun _ _ => ?_
      cases hd : dimB l g.split[k] with
      | false =>
        refine go ?_
        rw [hno (by rw [e1, hd]; rfl)]
        exact rt () trivial rfl (fun _ h => h.ent fun _ j => j.2.2.2.2.2.2)
      | true =>
        refine go ?_
        intro q
        refine ca (cConI (xs := sub g.split 0 k) (hb := by rw [sub_length _ hk]; omega)) fun _ _ => ?_
        rw [show sub g.split 0 k = g.split.take k from rfl]
        cases hc : decide (g.split[k] ∈ g.split.take k) with
        | true =>
          refine go ?_
          rw [hno (by rw [e1, hd, hc]; rfl)]
          exact rt () trivial rfl (fun _ h => h.ent fun _ j => j.2.2.2.2.2.2.2)
        | false =>
          refine go ?_
          exact en (k + 1) ⟨⟨by omega, by rw [e1, hd, hc]; rfl⟩, by omega⟩ rfl (fun _ h => h.ent fun _ j => j.2)
    · obtain rfl : k = g.split.length := by omega
      rw [hall]
      by_cases h8 : g.split.length ≤ 8
      · by_cases h9 : 1 ≤ g.leaf
        · refine go ?_
          rw [show (true && (true && (true && decide (g.split.length ≤ 8 ∧ 1 ≤ g.leaf ∧ g.leaf ≤ 1000000)))) = decide (g.leaf ≤ 1000000) by simp [h8, h9]]
          exact rt () trivial rfl (fun _ h => h.ent fun _ j => j.2.2.2.2.2.2)
        · refine go ?_
          rw [show (true && (true && (true && decide (g.split.length ≤ 8 ∧ 1 ≤ g.leaf ∧ g.leaf ≤ 1000000)))) = false by simp [h9]]
          exact rt () trivial rfl (fun _ h => h.ent fun _ j => j.2.2.2.2.2.2)
      · refine go ?_
        rw [show (true && (true && (true && decide (g.split.length ≤ 8 ∧ 1 ≤ g.leaf ∧ g.leaf ≤ 1000000)))) = false by simp [h8]]
        exact rt () trivial rfl (fun _ h => h.ent fun _ j => j.2.2.2.2.2.2)
end
end
end Go.Proofs.YtimemehaccgmmaaGreatDoor
namespace Go.Proofs.YtimemehaccgmmaaGreatDoor
open Go.RowKit
set_option maxRecDepth 100000
set_option linter.unusedVariables false
set_option linter.unusedSimpArgs false
noncomputable section
/-- What fits. -/
structure FitOk (l : List Col) (g : Cfg) : Prop where
  len : 1 ≤ l.length ∧ l.length ≤ 256
  col : ∀ i (h : i < l.length), nameB 95 64 l[i].s = true ∧ (1 ≤ l[i].k ∧ l[i].k ≤ 3) ∧ findC l l[i].s = i
  size : ∀ c ∈ l, c.s.size ≤ 64
  kind : ∀ c ∈ l, 1 ≤ c.k ∧ c.k ≤ 3
  sort : g.sort = -1 ∨ dimB l g.sort = true
  inv : flagB l g.inv = true
  rng : flagB l g.rng = true
  spl : spT l g.split g.split.length = true
  bs : g.split.length ≤ 8
  leaf : 1 ≤ g.leaf ∧ g.leaf ≤ 1000000
theorem okL_at {l : List Col} : ∀ {k : Nat}, okL l k = true → ∀ i (h : i < l.length), i < k → okC l i l[i] = true
  | 0, _, i, _, hi => by omega
  | k + 1, h, i, hl, hi => by
    simp only [okL, Bool.and_eq_true] at h
    rcases Nat.lt_or_eq_of_le (Nat.le_of_lt_succ hi) with h3 | h3
    · exact okL_at h.1 i hl h3
    · subst h3
      simpa [hl] using h.2
theorem flT_at {l : List Col} {fl : List Bool} : ∀ {k : Nat}, flT l fl k = true → ∀ i, i < k → fl[i]? = some true → dimB l i = true
  | 0, _, i, hi, _ => by omega
  | k + 1, h, i, hi, he => by
    simp only [flT, Bool.and_eq_true] at h
    rcases Nat.lt_or_eq_of_le (Nat.le_of_lt_succ hi) with h3 | h3
    · exact flT_at h.1 i h3 he
    · subst h3
      simpa [he] using h.2
theorem spT_at {l : List Col} {sp : List Int} : ∀ {k : Nat}, spT l sp k = true → ∀ i (h : i < sp.length), i < k → dimB l sp[i] = true ∧ sp[i] ∉ sp.take i
  | 0, _, i, _, hi => by omega
  | k + 1, h, i, hl, hi => by
    simp only [spT, Bool.and_eq_true] at h
    rcases Nat.lt_or_eq_of_le (Nat.le_of_lt_succ hi) with h3 | h3
    · exact spT_at h.1 i hl h3
    · subst h3
      simpa [hl] using h.2
theorem dimB_lt {l : List Col} {p : Int} (h : dimB l p = true) : 0 ≤ p ∧ p < l.length := by
  unfold dimB at h
  simp only [Bool.and_eq_true, decide_eq_true_iff] at h
  refine ⟨h.1, ?_⟩
  by_cases hl : p.toNat < l.length
  · omega
  · rw [List.getElem?_eq_none (by omega)] at h; simp at h
theorem fit_ok {l : List Col} {g : Cfg} (h : fitsB l g = true) : FitOk l g := by
  simp only [fitsB, mayL, Bool.and_eq_true, decide_eq_true_iff, Bool.or_eq_true] at h
  obtain ⟨⟨h1, h2⟩, h3, h4, h5, h6, h7⟩ := h
  have hc : ∀ i (h : i < l.length), nameB 95 64 l[i].s = true ∧ (1 ≤ l[i].k ∧ l[i].k ≤ 3) ∧ findC l l[i].s = i := fun i hi => by
    have := okL_at h1 i hi hi
    simpa [okC, Bool.and_eq_true, and_assoc] using this
  have hm : ∀ c ∈ l, (nameB 95 64 c.s = true ∧ (1 ≤ c.k ∧ c.k ≤ 3)) := fun c hc' => by
    obtain ⟨i, hi, rfl⟩ := List.getElem_of_mem hc'
    exact ⟨(hc i hi).1, (hc i hi).2.1⟩
  exact ⟨h2, hc, fun c h => by have := (hm c h).1; simp only [nameB, Bool.and_eq_true, decide_eq_true_iff] at this; exact this.2.2, fun c h => (hm c h).2, h3, h4, h5, h6, h7.1, h7.2⟩
theorem FitOk.sortLt {l : List Col} {g : Cfg} (h : FitOk l g) : -1 ≤ g.sort ∧ g.sort < l.length := by
  rcases h.sort with h1 | h1
  · omega
  · have := dimB_lt h1; omega
theorem FitOk.splLt {l : List Col} {g : Cfg} (h : FitOk l g) : ∀ p ∈ g.split, 0 ≤ p ∧ p < l.length := fun p hp => by
  obtain ⟨i, hi, rfl⟩ := List.getElem_of_mem hp
  exact dimB_lt (spT_at h.spl i hi hi).1
/-- The bytes of columns and a configuration. -/
def colB (c : Col) : List Int := [c.k, (c.s.size : Int)] ++ sb c.s
def flB (g : Cfg) (i : Nat) : Int := (if hasB g.inv i = true then 1 else 0) + (if hasB g.rng i = true then 2 else 0)
def schB (l : List Col) (g : Cfg) : List Int := le 2 l.length ++ l.flatMap colB ++ le 2 (g.sort + 1) ++ (List.range l.length).map (flB g) ++ [(g.split.length : Int)] ++ g.split.flatMap (le 2) ++ le 4 g.leaf
section
variable {J : List (World → Prop)} {H : List RC} {ad ad2 : Option Addr} {cap cap2 : Nat} {l : List Col} {g : Cfg} {a : CfA}
theorem colB_len {c : Col} (h : c.s.size ≤ 64) : (colB c).length ≤ 66 := by simp [colB, sb_len]; omega
theorem cols_len {k : Nat} (h : ∀ c ∈ l, c.s.size ≤ 64) (hl : l.length ≤ 256) : ((l.take k).flatMap colB).length ≤ 16896 := by
  have := flat_len (g := colB) (c := 66) (l := l.take k) fun c hc => colB_len (h c (List.mem_of_mem_take hc))
  have h2 : (l.take k).length ≤ l.length := by simp; omega
  omega
theorem flat2_len {k : Nat} {sp : List Int} : ((sp.take k).flatMap (le 2)).length ≤ sp.length * 2 := by
  have := flat_len (g := le 2) (c := 2) (l := sp.take k) fun c _ => by simp
  have h2 : (sp.take k).length ≤ sp.length := by simp; omega
  omega
set_option maxHeartbeats 8000000 in
theorem cSchBytes (hf : fitsB l g = true) (hbi : SOk l g) (hJ : Ent J (Rs fC 2 ad cap l) := by exact jA) (hJ2 : Ent J (Bn (gF' g a)) := by exact jA) :
    Tr TP 23 [.slice ad l.length cap, gA' g a] (Ctx J H) (fun q : Q2 => .tuple #[.slice q.1 (schB l g).length q.2, .int .i64 0]) (fun _ => True) (fun q => Ctx (Rs f8 1 q.1 q.2 (schB l g) :: J) H) := by
  have ho := fit_ok hf
  have hl := ho.len
  have hso := ho.sortLt
  have hlf := ho.leaf
  have hbs := ho.bs
  have hbi1 := hbi.bi
  have hbi2 := hbi.br
  refine en0 Tryz.func23 rfl rfl rfl (addS3 hJ2 ?_)
  refine addJ (fun w j => hJ w j.2.2.2.2) ?_
  refine go ?_
  intro b
  refine fzpc ?_
  refine ca (cFitsB hbi) fun _ _ => ?_
  rw [hf]
  refine go ?_
  refine cg (cA16 (xs := []) (n := l.length) (hJ := rNl)) fun q0 _ => ?_
  refine lp (X := Nat × Q2) (fun x => x.1 ≤ l.length) (fun (k, s) => [(0, .slice ad l.length cap), (3, pb b), (6, .slice s.1 ([] ++ le 2 l.length ++ (l.take k).flatMap colB).length s.2), (21, .slice ad l.length cap), (22, .int .i64 l.length), (23, .int .i64 k)])
    (fun (k, s) => Ctx ((pt b 26 (gC g a)).A :: Rs fC 2 ad cap l :: Rs fB 1 a.i.1 a.i.2 g.inv :: Rs fB 1 a.r.1 a.r.2 g.rng :: Rs fi 1 a.s.1 a.s.2 g.split :: Bn (gF' g a) :: J) (sl f8 1 5 s.1 s.2 ([] ++ le 2 l.length ++ (l.take k).flatMap colB) :: H)) (fun x => l.length - x.1) (0, q0) (by simp) (by simp) (fun _ h => by simpa using h) fun ⟨k, s⟩ hk => ?_
  dsimp only at hk
  have hck := cols_len (l := l) (k := k) ho.size hl.2
  refine go ?_
  refine ⟨fun h1 => ?_, fun h1 => ?_⟩
  · have hk1 : k < l.length := by omega
    have hsz := ho.size _ (List.getElem_mem hk1)
    have hln : ([] ++ le 2 l.length ++ (l.take k).flatMap colB).length ≤ 17000 := by simp only [List.nil_append, List.length_append, le_len]; omega
    have hln2 : ([] ++ le 2 l.length ++ (l.take k).flatMap colB ++ [l[k].k, (l[k].s.size : Int)]).length ≤ 17000 := by simp only [List.nil_append, List.length_append, le_len, List.length_cons, List.length_nil]; omega
    refine go ?_
    intro c d
    refine preD (fun w h => (Ctx.p2s (f := f8) (xs := [l[k].k, (l[k].s.size : Int)]) rfl (by simp) h).fzS) (frd 1 rfl ?_)
    refine dpJ (ys := [l[k].k, (l[k].s.size : Int)]) je0 (by show _ + 2 ≤ _; omega) fun r2 => ?_
    refine go ?_
    intro r3
    rw [show [] ++ le 2 l.length ++ (l.take k).flatMap colB ++ [l[k].k, (l[k].s.size : Int)] ++ sb l[k].s = [] ++ le 2 l.length ++ (l.take (k + 1)).flatMap colB by rw [flat_take_succ hk1]; simp [colB]]
    exact en (k + 1, r3) (by dsimp only; omega) rfl (fun _ h => (h.drp 1).ent fun _ j => j.2)
  obtain rfl : k = l.length := by omega
  refine go ?_
  dsimp only
  rw [List.take_length]
  refine fzc ?_
  generalize eA : [] ++ le 2 l.length ++ l.flatMap colB = A
  have hA' : A.length ≤ 17000 := by
    have := cols_len (l := l) (k := l.length) ho.size hl.2
    rw [List.take_length] at this
    rw [← eA]; simp only [List.nil_append, List.length_append, le_len]; omega
  refine cg (cA16 (xs := A) (n := g.sort + 1)) fun q1 _ => ?_
  refine lp (X := Nat × Q2) (fun x => x.1 ≤ l.length) (fun (k, s) => [(3, pb b), (6, .slice s.1 (A ++ le 2 (g.sort + 1) ++ (List.range k).map (flB g)).length s.2), (47, .int .i64 l.length), (48, .int .i64 k)])
    (fun (k, s) => Ctx ((pt b 26 (gC g a)).A :: Rs fC 2 ad cap l :: Rs fB 1 a.i.1 a.i.2 g.inv :: Rs fB 1 a.r.1 a.r.2 g.rng :: Rs fi 1 a.s.1 a.s.2 g.split :: Bn (gF' g a) :: J) (sl f8 1 5 s.1 s.2 (A ++ le 2 (g.sort + 1) ++ (List.range k).map (flB g)) :: H)) (fun x => l.length - x.1) (0, q1) (by simp) (by simp) (fun _ h => by simpa using h.ent fun _ j => j.2) fun ⟨k, s⟩ hk => ?_
  dsimp only at hk
  refine go ?_
  refine ⟨fun h1 => ?_, fun h1 => ?_⟩
  · refine go ?_
    refine ca (cHasF (fl := g.inv) (p := (k : Nat))) fun _ _ => ?_
    have h7 : (List.range (k + 1)).map (flB g) = (List.range k).map (flB g) ++ [flB g k] := by rw [List.range_succ]; simp
    have hfb : flB g k = (if hasB g.inv k = true then 1 else 0) + (if hasB g.rng k = true then 2 else 0) := rfl
    cases e1 : hasB g.inv k
    all_goals
      refine go ?_
      refine ca (cHasF (fl := g.rng) (p := (k : Nat))) fun _ _ => ?_
      cases e2 : hasB g.rng k
      all_goals
        rw [e1, e2] at hfb
        refine go ?_
        intro d r2
        rw [List.append_assoc, show List.map (flB g) (List.range k) ++ [_] = (List.range (k + 1)).map (flB g) by rw [h7, hfb]; rfl]
        exact en (k + 1, r2) (by dsimp only; omega) rfl (fun _ h => h)
  obtain rfl : k = l.length := by omega
  refine go ?_
  intro d r2
  generalize eB : A ++ le 2 (g.sort + 1) ++ (List.range l.length).map (flB g) ++ [(g.split.length : Int)] = B
  have hBl : B.length ≤ 17500 := by
    rw [← eB]; simp only [List.length_append, le_len, List.length_map, List.length_range, List.length_cons, List.length_nil]; omega
  refine fz ?_
  refine lp (X := Nat × Q2) (fun x => x.1 ≤ g.split.length) (fun (k, s) => [(3, pb b), (6, .slice s.1 (B ++ (g.split.take k).flatMap (le 2)).length s.2), (74, .slice a.s.1 g.split.length a.s.2), (75, .int .i64 g.split.length), (76, .int .i64 k)])
    (fun (k, s) => Ctx (Rs f8 1 s.1 s.2 (B ++ (g.split.take k).flatMap (le 2)) :: (pt b 26 (gC g a)).A :: Rs fC 2 ad cap l :: Rs fB 1 a.i.1 a.i.2 g.inv :: Rs fB 1 a.r.1 a.r.2 g.rng :: Rs fi 1 a.s.1 a.s.2 g.split :: Bn (gF' g a) :: J) H) (fun x => g.split.length - x.1) (0, r2) (by simp) (by simp) (fun _ h => by simpa using h) fun ⟨k, s⟩ hk => ?_
  dsimp only at hk
  have hkl := flat2_len (k := k) (sp := g.split)
  have hbl2 : (B ++ (g.split.take k).flatMap (le 2)).length ≤ 18000 := by rw [List.length_append]; omega
  refine go ?_
  refine ⟨fun h1 => ?_, fun h1 => ?_⟩
  · have hk1 : k < g.split.length := by omega
    have hp := ho.splLt _ (List.getElem_mem hk1)
    refine go ?_
    refine cg (cA16 (xs := B ++ (g.split.take k).flatMap (le 2)) (n := g.split[k])) fun r3 _ => ?_
    refine fz (go ?_)
    rw [show B ++ (g.split.take k).flatMap (le 2) ++ le 2 g.split[k] = B ++ (g.split.take (k + 1)).flatMap (le 2) by rw [flat_take_succ hk1, List.append_assoc]]
    exact en (k + 1, r3) (by dsimp only; omega) rfl (fun _ h => h.ent fun _ j => ⟨j.1, j.2.2⟩)
  obtain rfl : k = g.split.length := by omega
  refine go ?_
  dsimp only
  rw [List.take_length] at hbl2 ⊢
  refine cg (cA32 (xs := B ++ g.split.flatMap (le 2)) (n := g.leaf)) fun q _ => ?_
  rw [show B ++ g.split.flatMap (le 2) ++ le 4 g.leaf = schB l g by rw [← eB, ← eA]; simp [schB]]
  refine fz ?_
  exact rt q trivial rfl (fun _ h => h.ent fun _ j => ⟨j.1, j.2.2.2.2.2.2.2.2⟩)
end
end
end Go.Proofs.YtimemehaccgmmaaGreatDoor
