/-
  Parts of the walks and their plain laws (RQ2 RQ3 RQ4 RQ5 K5). No condition.
-/
import Derived.Test.YtimemehaccgmmaaGreatDoorM28
namespace Go.Proofs.YtimemehaccgmmaaGreatDoor
open Go.RowKit
set_option maxRecDepth 100000
set_option linter.unusedVariables false
set_option linter.unusedSimpArgs false
noncomputable section
section
variable {J : List (World → Prop)} {H : List RC} {ad : Option Addr} {cap a b m : Nat} {g : Value}
set_option maxHeartbeats 8000000 in
theorem swapRec (P X Q Y S M : List Rec) (n : Nat) (hM : M = P ++ (X ++ (Q ++ (Y ++ S)))) (ha : a = P.length) (hb : b = a + n + Q.length) (hX : X.length = n) (hY : Y.length = n) {N : Nat} (hN : M.length = N) (hl : N ≤ 1000) :
    Tr TP 354 [.slice ad N cap, .int .i64 a, .int .i64 b, .int .i64 n, g] (Ctx J (sl fRec 10 139 ad cap M :: H)) (fun _ : Unit => .tuple #[]) (fun _ => True) (fun _ => Ctx J (sl fRec 10 139 ad cap (P ++ (Y ++ (Q ++ (X ++ S)))) :: H)) := by
  have hMl : N = P.length + n + Q.length + n + S.length := by rw [← hN, hM]; simp; omega
  refine en0 Tryz.func354 rfl rfl rfl (go ?_)
  refine lp (X := Nat) (fun k => k ≤ n) (fun k => [(0, .slice ad N cap), (1, .int .i64 a), (2, .int .i64 b), (3, .int .i64 n), (10, .int .i64 k)])
    (fun k => Ctx J (sl fRec 10 139 ad cap (P ++ (Y.take k ++ X.drop k ++ (Q ++ (X.take k ++ Y.drop k ++ S)))) :: H)) (fun k => n - k) 0 (by omega) rfl (fun _ h => by rw [hM] at h; simpa using h) fun k hk => ?_
  have hml : (P ++ (Y.take k ++ X.drop k ++ (Q ++ (X.take k ++ Y.drop k ++ S)))).length = N := by simp; omega
  refine go ?_
  refine ⟨fun h1 => ?_, fun h1 => ?_⟩
  · have hk1 : k < n := by omega
    have e1 : X.drop k = X[k] :: X.drop (k + 1) := drop_at (by omega)
    have e2 : Y.drop k = Y[k] :: Y.drop (k + 1) := drop_at (by omega)
    have e3 : X.take (k + 1) = X.take k ++ [X[k]] := (List.take_append_getElem (by omega)).symm
    have e4 : Y.take (k + 1) = Y.take k ++ [Y[k]] := (List.take_append_getElem (by omega)).symm
    generalize X[k] = x at e1 e3
    generalize Y[k] = y at e2 e4
    have eM : P ++ (Y.take k ++ X.drop k ++ (Q ++ (X.take k ++ Y.drop k ++ S))) = (P ++ Y.take k) ++ x :: ((X.drop (k + 1) ++ (Q ++ X.take k)) ++ y :: (Y.drop (k + 1) ++ S)) := by rw [e1, e2]; simp
    have eN : P ++ (Y.take (k + 1) ++ X.drop (k + 1) ++ (Q ++ (X.take (k + 1) ++ Y.drop (k + 1) ++ S))) = (P ++ Y.take k) ++ y :: ((X.drop (k + 1) ++ (Q ++ X.take k)) ++ x :: (Y.drop (k + 1) ++ S)) := by rw [e3, e4]; simp
    have g2 := xch_far (P ++ Y.take k) (X.drop (k + 1) ++ (Q ++ X.take k)) (Y.drop (k + 1) ++ S) x y (a + k) (b + k) (by simp; omega) (by simp; omega)
    rw [← eM, ← eN] at g2
    have g0 : ∀ h, (P ++ (Y.take k ++ X.drop k ++ (Q ++ (X.take k ++ Y.drop k ++ S))))[a + k]'h = x := fun h => g_at eM (by simp; omega) h
    have g1 : ∀ h, (P ++ (Y.take k ++ X.drop k ++ (Q ++ (X.take k ++ Y.drop k ++ S))))[b + k]'h = y := fun h => g_at (Q := (P ++ Y.take k) ++ x :: (X.drop (k + 1) ++ (Q ++ X.take k))) (Z := Y.drop (k + 1) ++ S) (by rw [eM]; simp) (by simp; omega) h
    generalize P ++ (Y.take k ++ X.drop k ++ (Q ++ (X.take k ++ Y.drop k ++ S))) = M' at hml g0 g1 g2 ⊢
    refine purH (fun w h => own_ad (show OwnS fRec 10 w 0 139 ad cap M' from h) (i := 0) (by omega)) fun hp => ?_
    refine gpl ?_
    rw [show (a : Int) + (k : Int) = ((a + k : Nat) : Int) by omega, show (b : Int) + (k : Int) = ((b + k : Nat) : Int) by omega]
    refine dIx (i := b + k) (m := N) hp (by omega) (dA rfl ?_)
    refine dIx (i := a + k) (m := N) hp (by omega) (dA rfl ?_)
    refine go ?_
    rw [g0, g1, g2]
    exact en (k + 1) (by omega) rfl (fun _ h => h)
  · obtain rfl : k = n := by omega
    refine go ?_
    exact rtE () trivial rfl (fun _ h => by rw [List.take_of_length_le (by omega), List.take_of_length_le (by omega), List.drop_of_length_le (by omega), List.drop_of_length_le (by omega)] at h; simpa using h)
set_option maxHeartbeats 8000000 in
theorem rotRec (P X Y S M : List Rec) (hM : M = P ++ (X ++ (Y ++ S))) (ha : a = P.length) (hm : m = a + X.length) (hb : b = m + Y.length) (hX : 0 < X.length) (hY : 0 < Y.length) {N : Nat} (hN : M.length = N) (hl : N ≤ 1000) :
    Tr TP 322 [.slice ad N cap, .int .i64 a, .int .i64 m, .int .i64 b, g] (Ctx J (sl fRec 10 139 ad cap M :: H)) (fun _ : Unit => .tuple #[]) (fun _ => True) (fun _ => Ctx J (sl fRec 10 139 ad cap (P ++ (Y ++ (X ++ S))) :: H)) := by
  have hMl : N = P.length + X.length + Y.length + S.length := by rw [← hN, hM]; simp; omega
  refine en0 Tryz.func322 rfl rfl rfl (go ?_)
  refine lp (X := List Rec × List Rec × List Rec × List Rec) (fun y => 0 < y.2.1.length ∧ 0 < y.2.2.1.length ∧ y.1.length + y.2.1.length = m ∧ y.1 ++ (y.2.2.1 ++ (y.2.1 ++ y.2.2.2)) = P ++ (Y ++ (X ++ S))) (fun (P', U, V, S') => [(0, .slice ad N cap), (2, .int .i64 m), (4, g), (10, .int .i64 U.length), (11, .int .i64 V.length)])
    (fun (P', U, V, S') => Ctx J (sl fRec 10 139 ad cap (P' ++ (U ++ (V ++ S'))) :: H)) (fun y => y.2.1.length + y.2.2.1.length) (P, X, Y, S) ⟨hX, hY, by dsimp only; omega, rfl⟩ (by simp; omega) (fun _ h => by rw [hM] at h; exact h) fun ⟨P', U, V, S'⟩ ⟨hU, hV, hPU, hE⟩ => ?_
  dsimp only at hU hV hPU hE
  have hml : (P' ++ (U ++ (V ++ S'))).length = N := by
    have := congrArg List.length hE
    simp only [List.length_append] at this ⊢; omega
  refine go ?_
  refine ⟨fun h1 => ?_, fun h1 => ?_⟩
  · refine go ?_
    refine ⟨fun h2 => ?_, fun h2 => ?_⟩
    · obtain ⟨U1, U2, rfl, hU1⟩ := cut_len U V.length (by omega)
      have hUl : (U1 ++ U2).length = U1.length + U2.length := List.length_append
      refine go ?_
      rw [show (m : Int) - ((U1 ++ U2).length : Int) = ((P'.length : Nat) : Int) by omega]
      refine cg (swapRec P' U1 U2 V S' _ V.length (by simp) rfl (by omega) hU1 rfl hml hl) fun _ _ => ?_
      exact en (P' ++ V, U2, U1, S') ⟨⟨by dsimp only; omega, by dsimp only; omega, by simp; omega, by simpa using hE⟩, by simp; omega⟩ (by simp; omega) (fun _ h => by simpa using h)
    · obtain ⟨V1, V2, rfl, hV1⟩ := cut_len V (V.length - U.length) (by omega)
      have hVl : (V1 ++ V2).length = V1.length + V2.length := List.length_append
      have hml3 : P'.length + U.length + (V1 ++ V2).length + S'.length = N := by rw [← hml]; simp; omega
      refine go ?_
      rw [show (m : Int) - (U.length : Int) = ((P'.length : Nat) : Int) by omega, show (m : Int) + ((V1 ++ V2).length : Int) - (U.length : Int) = ((m + V1.length : Nat) : Int) by omega]
      refine cg (swapRec P' U V1 V2 S' _ U.length (by simp) rfl (by omega) rfl (by omega) hml hl) fun _ _ => ?_
      exact en (P', V2, V1, U ++ S') ⟨⟨by dsimp only; omega, by dsimp only; omega, by simp; omega, by simpa using hE⟩, by simp; omega⟩ (by simp; omega) (fun _ h => by simpa using h)
  · refine go ?_
    rw [show (m : Int) - (U.length : Int) = ((P'.length : Nat) : Int) by omega]
    refine cg (swapRec P' U [] V S' _ U.length (by simp) rfl (by simp; omega) rfl (by omega) hml hl) fun _ _ => ?_
    exact rtE () trivial rfl (fun _ h => by rw [List.nil_append, hE] at h; exact h)
end
end
end Go.Proofs.YtimemehaccgmmaaGreatDoor
namespace Go.Proofs.YtimemehaccgmmaaGreatDoor
open Go.RowKit
set_option maxRecDepth 100000
set_option linter.unusedVariables false
set_option linter.unusedSimpArgs false
noncomputable section
section
variable {J : List (World → Prop)} {H : List RC} {ad : Option Addr} {cap g a b m N : Nat} {cb : List Value} {S : Rec → Prop} {lt : Rec → Rec → Bool}
set_option maxHeartbeats 8000000 in
theorem symLRec (hw : Swo lt) (hc : CmT g cb J S vRec lt) (P B T M : List Rec) (x : Rec) (hM : M = P ++ (x :: (B ++ T))) (ha : a = P.length) (hm : m = a + 1) (hb : b = m + B.length) (hS : S x ∧ ∀ y ∈ B, S y) (hB : Rises lt B) (hN : M.length = N) (hl : N ≤ 1000) :
    Tr TP 273 [.slice ad N cap, .int .i64 a, .int .i64 m, .int .i64 b, .func (.func g) #[] ⟨cb⟩] (Ctx J (sl fRec 10 139 ad cap M :: H)) (fun _ : List Rec => .tuple #[]) (fun R => Stab lt ([x] ++ B) R) (fun R => Ctx J (sl fRec 10 139 ad cap (P ++ (R ++ T)) :: H)) := by
  have hMl : N = P.length + 1 + B.length + T.length := by rw [← hN, hM]; simp; omega
  have gx : ∀ h, M[a]'h = x := fun h => g_at hM (by omega) h
  have gB : ∀ t (ht : t < B.length) h, M[m + t]'h = B[t] := fun t ht h => by
    have e : B ++ T = B.take t ++ (B[t] :: (B.drop (t + 1) ++ T)) := by rw [← List.cons_append, ← drop_at ht, ← List.append_assoc, List.take_append_drop]
    refine g_at (Q := P ++ (x :: B.take t)) (Z := B.drop (t + 1) ++ T) ?_ (by simp; omega) h
    rw [hM, e]; simp
  refine en0 Tryz.func273 rfl rfl rfl (go ?_)
  refine lp (X := Nat × Nat) (fun y => y.1 ≤ y.2 ∧ y.2 ≤ B.length ∧ (0 < y.1 → ∀ z, B[y.1 - 1]? = some z → lt z x = true) ∧ (∀ z, B[y.2]? = some z → lt z x = false)) (fun (i, j) => [(0, .slice ad N cap), (1, .int .i64 a), (2, .int .i64 m), (3, .int .i64 b), (4, .func (.func g) #[] ⟨cb⟩), (10, .int .i64 ((m + i : Nat) : Int)), (11, .int .i64 ((m + j : Nat) : Int))])
    (fun _ => Ctx J (sl fRec 10 139 ad cap M :: H)) (fun y => y.2 - y.1) (0, B.length) ⟨by omega, by simp, by simp, by simp⟩ (by rw [hb]; rfl) (fun _ h => h) fun ⟨i, j⟩ ⟨hij, hj, h1, h2⟩ => ?_
  dsimp only at hij hj h1 h2
  refine go ?_
  refine ⟨fun h3 => ?_, fun h3 => ?_⟩
  · have hlt : i < j := by omega
    refine go ?_
    obtain ⟨t, ht⟩ : ∃ t, (m + i + (m + j)) / 2 = m + t ∧ i ≤ t ∧ t < j := ⟨(i + j) / 2, by omega⟩
    rw [half, IntWalk.i64_in _ (by omega), ht.1]
    refine go ?_
    rw [gB t (by omega), gx]
    refine cg (hc (fun w j => j) B[t] x (hS.2 _ (List.getElem_mem _)) hS.1) fun c hc' => ?_
    refine ⟨fun h4 => ?_, fun h4 => ?_⟩
    · refine go ?_
      exact en (t + 1, j) ⟨⟨by dsimp only; omega, hj, fun _ z hz => by rw [← at? (by omega) hz]; exact hc'.1 h4, h2⟩, by dsimp only; omega⟩ rfl (fun _ h => h)
    · refine go ?_
      exact en (i, t) ⟨⟨by dsimp only; omega, by dsimp only; omega, h1, fun z hz => by
        rw [← at? (by omega) hz]
        cases e : lt B[t] x with
        | false => rfl
        | true => exact absurd (hc'.2 e) h4⟩, by dsimp only; omega⟩ rfl (fun _ h => h)
  · obtain rfl : i = j := by omega
    refine go ?_
    have hst := left_law hw hj hB h1 h2
    refine lp (X := Nat) (fun t => t ≤ i) (fun t => [(0, .slice ad N cap), (10, .int .i64 ((m + i : Nat) : Int)), (13, .int .i64 ((a + t : Nat) : Int))])
      (fun t => Ctx J (sl fRec 10 139 ad cap (P ++ (B.take t ++ x :: (B.drop t ++ T))) :: H)) (fun t => i - t) 0 (by omega) rfl (fun _ h => by rw [hM] at h; simpa using h) fun t ht => ?_
    refine go ?_
    refine ⟨fun h3 => ?_, fun h3 => ?_⟩
    · have hlt : t < i := by omega
      have e1 : B.drop t = B[t] :: B.drop (t + 1) := drop_at (by omega)
      have e2 : B.take (t + 1) = B.take t ++ [B[t]] := (List.take_append_getElem (by omega)).symm
      generalize B[t] = y at e1 e2
      have eM : P ++ (B.take t ++ x :: (B.drop t ++ T)) = (P ++ B.take t) ++ x :: y :: (B.drop (t + 1) ++ T) := by rw [e1]; simp
      have g2 := sw1 (P ++ B.take t) (B.drop (t + 1) ++ T) x y (a + t) (by simp; omega)
      have g0 : ∀ h, (P ++ (B.take t ++ x :: (B.drop t ++ T)))[a + t]'h = x := fun h => g_at eM (by simp; omega) h
      have g1 : ∀ h, (P ++ (B.take t ++ x :: (B.drop t ++ T)))[a + t + 1]'h = y := fun h => g_at (Q := P ++ B.take t ++ [x]) (Z := B.drop (t + 1) ++ T) (by rw [eM]; simp) (by simp; omega) h
      have hml : (P ++ (B.take t ++ x :: (B.drop t ++ T))).length = N := by simp; omega
      rw [← eM, show (P ++ B.take t) ++ y :: x :: (B.drop (t + 1) ++ T) = P ++ (B.take (t + 1) ++ x :: (B.drop (t + 1) ++ T)) by rw [e2]; simp] at g2
      generalize P ++ (B.take t ++ x :: (B.drop t ++ T)) = M' at hml g0 g1 g2 ⊢
      refine purH (fun w h => own_ad (show OwnS fRec 10 w 0 139 ad cap M' from h) (i := 0) (by omega)) fun hp => ?_
      refine gpl ?_
      rw [show ((a + t : Nat) : Int) + 1 = ((a + t + 1 : Nat) : Int) by omega]
      refine dIx (i := a + t + 1) (m := N) hp (by omega) (dA rfl ?_)
      refine dIx (i := a + t) (m := N) hp (by omega) (dA rfl ?_)
      refine go ?_
      rw [g0, g1, g2]
      exact en (t + 1) (by omega) rfl (fun _ h => h)
    · obtain rfl : t = i := by omega
      refine go ?_
      exact rt _ hst rfl (fun _ h => by simpa using h)
set_option maxHeartbeats 8000000 in
theorem symRRec (hw : Swo lt) (hc : CmT g cb J S vRec lt) (P A T M : List Rec) (y : Rec) (hM : M = P ++ (A ++ y :: T)) (ha : a = P.length) (hm : m = a + A.length) (hb : b = m + 1) (h2A : 2 ≤ A.length) (hS : S y ∧ ∀ x ∈ A, S x) (hrA : Rises lt A) (hN : M.length = N) (hl : N ≤ 1000) :
    Tr TP 273 [.slice ad N cap, .int .i64 a, .int .i64 m, .int .i64 b, .func (.func g) #[] ⟨cb⟩] (Ctx J (sl fRec 10 139 ad cap M :: H)) (fun _ : List Rec => .tuple #[]) (fun R => Stab lt (A ++ [y]) R) (fun R => Ctx J (sl fRec 10 139 ad cap (P ++ (R ++ T)) :: H)) := by
  have hMl : N = P.length + A.length + 1 + T.length := by rw [← hN, hM]; simp; omega
  have gy : ∀ h, M[m]'h = y := fun h => g_at (Q := P ++ A) (Z := T) (by rw [hM]; simp) (by simp; omega) h
  have gA : ∀ t (ht : t < A.length) h, M[a + t]'h = A[t] := fun t ht h => by
    have e : A ++ y :: T = A.take t ++ (A[t] :: (A.drop (t + 1) ++ y :: T)) := by rw [← List.cons_append, ← drop_at ht, ← List.append_assoc, List.take_append_drop]
    refine g_at (Q := P ++ A.take t) (Z := A.drop (t + 1) ++ y :: T) ?_ (by simp; omega) h
    rw [hM, e]; simp
  refine en0 Tryz.func273 rfl rfl rfl (go ?_)
  refine lp (X := Nat × Nat) (fun z => z.1 ≤ z.2 ∧ z.2 ≤ A.length ∧ (0 < z.1 → ∀ x, A[z.1 - 1]? = some x → lt y x = false) ∧ (∀ x, A[z.2]? = some x → lt y x = true)) (fun (i, j) => [(0, .slice ad N cap), (1, .int .i64 a), (2, .int .i64 m), (3, .int .i64 b), (4, .func (.func g) #[] ⟨cb⟩), (14, .int .i64 ((a + i : Nat) : Int)), (15, .int .i64 ((a + j : Nat) : Int))])
    (fun _ => Ctx J (sl fRec 10 139 ad cap M :: H)) (fun y => y.2 - y.1) (0, A.length) ⟨by omega, by simp, by simp, by simp⟩ (by subst hm; rfl) (fun _ h => h) fun ⟨i, j⟩ ⟨hij, hj, h1, h2⟩ => ?_
  dsimp only at hij hj h1 h2
  refine go ?_
  refine ⟨fun h3 => ?_, fun h3 => ?_⟩
  · have hlt : i < j := by omega
    refine go ?_
    obtain ⟨t, ht⟩ : ∃ t, (a + i + (a + j)) / 2 = a + t ∧ i ≤ t ∧ t < j := ⟨(i + j) / 2, by omega⟩
    rw [half, IntWalk.i64_in _ (by omega), ht.1]
    refine go ?_
    rw [gA t (by omega), gy]
    refine cg (hc (fun w j => j) y A[t] hS.1 (hS.2 _ (List.getElem_mem _))) fun c hc' => ?_
    refine ⟨fun h4 => ?_, fun h4 => ?_⟩
    · refine go ?_
      exact en (t + 1, j) ⟨⟨by dsimp only; omega, hj, fun _ z hz => by
        rw [← at? (by omega) hz]
        cases e : lt y A[t] with
        | false => exact e
        | true => exact absurd (hc'.2 e) h4, h2⟩, by dsimp only; omega⟩ rfl (fun _ h => h)
    · refine go ?_
      exact en (i, t) ⟨⟨by dsimp only; omega, by dsimp only; omega, h1, fun z hz => by rw [← at? (by omega) hz]; exact hc'.1 h4⟩, by dsimp only; omega⟩ rfl (fun _ h => h)
  · obtain rfl : i = j := by omega
    refine go ?_
    have hst := right_law hw hj hrA h1 h2
    refine lp (X := Nat) (fun t => i ≤ t ∧ t ≤ A.length) (fun t => [(0, .slice ad N cap), (14, .int .i64 ((a + i : Nat) : Int)), (17, .int .i64 ((a + t : Nat) : Int))])
      (fun t => Ctx J (sl fRec 10 139 ad cap (P ++ (A.take t ++ y :: (A.drop t ++ T))) :: H)) (fun t => t - i) A.length ⟨hj, Nat.le_refl _⟩ (by subst hm; rfl) (fun _ h => by rw [hM] at h; simpa using h) fun t ⟨ht, ht2⟩ => ?_
    refine go ?_
    refine ⟨fun h3 => ?_, fun h3 => ?_⟩
    · obtain ⟨u, rfl⟩ : ∃ u, t = u + 1 := ⟨t - 1, by omega⟩
      have e1 : A.drop u = A[u] :: A.drop (u + 1) := drop_at (by omega)
      have e2 : A.take (u + 1) = A.take u ++ [A[u]] := (List.take_append_getElem (by omega)).symm
      generalize A[u] = x at e1 e2
      have eM : P ++ (A.take (u + 1) ++ y :: (A.drop (u + 1) ++ T)) = (P ++ A.take u) ++ x :: y :: (A.drop (u + 1) ++ T) := by rw [e2]; simp
      have g2 := sw2 (P ++ A.take u) (A.drop (u + 1) ++ T) y x (a + u) (by simp; omega)
      rw [show a + u + 1 = a + (u + 1) from rfl] at g2
      have g0 : ∀ h, (P ++ (A.take (u + 1) ++ y :: (A.drop (u + 1) ++ T)))[a + u]'h = x := fun h => g_at eM (by simp; omega) h
      have g1 : ∀ h, (P ++ (A.take (u + 1) ++ y :: (A.drop (u + 1) ++ T)))[a + (u + 1)]'h = y := fun h => g_at (Q := P ++ A.take u ++ [x]) (Z := A.drop (u + 1) ++ T) (by rw [eM]; simp) (by simp; omega) h
      have hml : (P ++ (A.take (u + 1) ++ y :: (A.drop (u + 1) ++ T))).length = N := by simp; omega
      rw [← eM, show (P ++ A.take u) ++ y :: x :: (A.drop (u + 1) ++ T) = P ++ (A.take u ++ y :: (A.drop u ++ T)) by rw [e1]; simp] at g2
      generalize P ++ (A.take (u + 1) ++ y :: (A.drop (u + 1) ++ T)) = M' at hml g0 g1 g2 ⊢
      refine purH (fun w h => own_ad (show OwnS fRec 10 w 0 139 ad cap M' from h) (i := 0) (by omega)) fun hp => ?_
      refine gpl ?_
      rw [show ((a + (u + 1) : Nat) : Int) - 1 = ((a + u : Nat) : Int) by omega]
      refine dIx (i := a + u) (m := N) hp (by omega) (dA rfl ?_)
      refine dIx (i := a + (u + 1)) (m := N) hp (by omega) (dA rfl ?_)
      refine go ?_
      rw [g0, g1, g2, show ((a + (u + 1) : Nat) : Int) - 1 = ((a + u : Nat) : Int) by omega]
      exact en u ⟨⟨by omega, by omega⟩, by omega⟩ rfl (fun _ h => h)
    · obtain rfl : t = i := by omega
      refine go ?_
      exact rt _ hst rfl (fun _ h => by simpa using h)
end
end
end Go.Proofs.YtimemehaccgmmaaGreatDoor
namespace Go.Proofs.YtimemehaccgmmaaGreatDoor
open Go.RowKit
set_option maxRecDepth 100000
set_option linter.unusedVariables false
set_option linter.unusedSimpArgs false
noncomputable section
section
variable {J : List (World → Prop)} {H : List RC} {ad : Option Addr} {cap g N : Nat} {cb : List Value} {S : Rec → Prop} {lt : Rec → Rec → Bool}
/-- What a symMerge does. -/
abbrev SymTR (J : List (World → Prop)) (H : List RC) (ad : Option Addr) (cap g N : Nat) (cb : List Value) (S : Rec → Prop) (lt : Rec → Rec → Bool) (z : Nat) : Prop :=
  ∀ (P A B T M : List Rec) (a m b : Nat), A.length + B.length ≤ z → 0 < A.length → 0 < B.length → M = P ++ (A ++ (B ++ T)) → a = P.length → m = a + A.length → b = m + B.length → (∀ x ∈ A ++ B, S x) → Rises lt A → Rises lt B → M.length = N →
    Tr TP 273 [.slice ad N cap, .int .i64 a, .int .i64 m, .int .i64 b, .func (.func g) #[] ⟨cb⟩] (Ctx J (sl fRec 10 139 ad cap M :: H)) (fun _ : List Rec => .tuple #[]) (fun R => Stab lt (A ++ B) R) (fun R => Ctx J (sl fRec 10 139 ad cap (P ++ (R ++ T)) :: H))
set_option maxHeartbeats 8000000 in
theorem symStepR (hw : Swo lt) (hc : CmT g cb J S vRec lt) (hl : N ≤ 1000) (z : Nat) (ih : SymTR J H ad cap g N cb S lt z) : SymTR J H ad cap g N cb S lt (z + 1) := by
  intro P A B T M a m b hz h0A h0B hM ha hm hb hS hrA hrB hN
  have hMl : N = P.length + A.length + B.length + T.length := by rw [← hN, hM]; simp; omega
  rcases (by omega : A.length = 1 ∨ 2 ≤ A.length) with h1 | h1
  · obtain ⟨x, rfl⟩ := List.length_eq_one_iff.1 h1
    exact symLRec hw hc P B T M x hM ha hm hb ⟨hS x (by simp), fun y hy => hS y (by simp [hy])⟩ hrB hN hl
  rcases (by omega : B.length = 1 ∨ 2 ≤ B.length) with h2 | h2
  · obtain ⟨y, rfl⟩ := List.length_eq_one_iff.1 h2
    exact symRRec hw hc P A T M y hM ha hm hb h1 ⟨hS y (by simp), fun x hx' => hS x (by simp [hx'])⟩ hrA hN hl
  have gA : ∀ t (ht : t < A.length) h, M[a + t]'h = A[t] := fun t ht h => by
    have e := split_app (T := B ++ T) ht
    refine g_at (Q := P ++ A.take t) (Z := A.drop (t + 1) ++ (B ++ T)) ?_ (by simp; omega) h
    rw [hM, e]; simp
  have gB : ∀ t (ht : t < B.length) h, M[m + t]'h = B[t] := fun t ht h => by
    have e := split_app (T := T) ht
    refine g_at (Q := P ++ (A ++ B.take t)) (Z := B.drop (t + 1) ++ T) ?_ (by simp; omega) h
    rw [hM, e]; simp
  have gA' : ∀ c (h1 : a ≤ c) (h2 : c < m) h, M[c]'h = A[c - a]'(by omega) := fun c h1 h2 h => by
    have := gA (c - a) (by omega) (by omega)
    rw [← this]; congr 1; omega
  obtain ⟨mid, hmid⟩ : ∃ mid, (a + b) / 2 = mid := ⟨_, rfl⟩
  refine en0 Tryz.func273 rfl rfl rfl (go ?_)
  rw [half, IntWalk.i64_in _ (by omega), hmid]
  rw [show (mid : Int) + (m : Int) = ((mid + m : Nat) : Int) by omega, IntWalk.i64_in _ (by omega)]
  refine ct2 (X := Nat × Nat) (fun x => a ≤ x.1 ∧ x.1 ≤ x.2 ∧ x.2 ≤ m ∧ x.2 ≤ mid ∧ mid + m ≤ x.1 + b ∧ (x.1 = a ∨ x.1 + b = mid + m) ∧ (x.2 = mid ∨ x.2 = m)) (fun (s0, r0) => [(0, .slice ad N cap), (1, .int .i64 a), (2, .int .i64 m), (3, .int .i64 b), (4, .func (.func g) #[] ⟨cb⟩), (18, .int .i64 mid), (19, .int .i64 ((mid + m : Nat) : Int)), (20, .int .i64 s0), (21, .int .i64 r0)])
    (fun _ => Ctx J (sl fRec 10 139 ad cap M :: H)) ⟨fun h3 => ?_, fun h3 => ?_⟩ fun ⟨s0, r0⟩ ⟨p1, p2, p3, p4, p5, p6, p7⟩ => ?_
  · refine go ?_
    rw [show ((mid + m : Nat) : Int) - (b : Int) = ((mid + m - b : Nat) : Int) by omega]
    exact en (mid + m - b, mid) (by dsimp only; omega) rfl (fun _ h => h)
  · refine go ?_
    exact en (a, m) (by dsimp only; omega) rfl (fun _ h => h)
  dsimp only at p1 p2 p3 p4 p5 p6 p7
  refine go ?_
  rw [show ((mid + m : Nat) : Int) - 1 = ((mid + m - 1 : Nat) : Int) by omega]
  refine lp (X := Nat × Nat) (fun x => s0 ≤ x.1 ∧ x.1 ≤ x.2 ∧ x.2 ≤ r0 ∧ (s0 < x.1 → ∀ u v, A[x.1 - 1 - a]? = some u → B[mid - x.1]? = some v → lt v u = false) ∧ (x.2 < r0 → ∀ u v, A[x.2 - a]? = some u → B[mid - 1 - x.2]? = some v → lt v u = true)) (fun (i, j) => [(0, .slice ad N cap), (1, .int .i64 a), (2, .int .i64 m), (3, .int .i64 b), (4, .func (.func g) #[] ⟨cb⟩), (18, .int .i64 mid), (19, .int .i64 ((mid + m : Nat) : Int)), (20, .int .i64 i), (21, .int .i64 j), (22, .int .i64 ((mid + m - 1 : Nat) : Int))])
    (fun _ => Ctx J (sl fRec 10 139 ad cap M :: H)) (fun x => x.2 - x.1) (s0, r0) ⟨Nat.le_refl _, p2, Nat.le_refl _, fun h => absurd h (by simp), fun h => absurd h (by simp)⟩ rfl (fun _ h => h) fun ⟨i, j⟩ ⟨q1, q2, q3, q4, q5⟩ => ?_
  dsimp only at q1 q2 q3 q4 q5
  refine go ?_
  refine ⟨fun h3 => ?_, fun h3 => ?_⟩
  · have hlt : i < j := by omega
    refine go ?_
    obtain ⟨c0, hc0⟩ : ∃ c0, (i + j) / 2 = c0 ∧ i ≤ c0 ∧ c0 < j := ⟨(i + j) / 2, by omega⟩
    rw [half, IntWalk.i64_in (((i + j) / 2 : Nat) : Int) (by omega), hc0.1]
    refine go ?_
    rw [show ((mid + m - 1 : Nat) : Int) - (c0 : Int) = ((m + (mid - 1 - c0) : Nat) : Int) by omega, IntWalk.i64_in ((m + (mid - 1 - c0) : Nat) : Int) (by omega)]
    refine go ?_
    rw [gA' c0 (by omega) (by omega), gB _ (by omega)]
    refine cg (hc (fun w j => j) B[mid - 1 - c0] A[c0 - a] (hS _ (by simp)) (hS _ (by simp))) fun c hc' => ?_
    refine ⟨fun h4 => ?_, fun h4 => ?_⟩
    · refine go ?_
      refine en (c0 + 1, j) ⟨⟨by dsimp only; omega, by dsimp only; omega, q3, fun _ u v hu hv => ?_, q5⟩, by dsimp only; omega⟩ rfl (fun _ h => h)
      rw [show c0 + 1 - 1 - a = c0 - a by omega] at hu
      rw [show mid - (c0 + 1) = mid - 1 - c0 by omega] at hv
      rw [← at? (by omega) hu, ← at? (by omega) hv]
      cases e : lt B[mid - 1 - c0] A[c0 - a] with
      | false => rfl
      | true => exact absurd (hc'.2 e) h4
    · refine go ?_
      exact en (i, c0) ⟨⟨q1, by dsimp only; omega, by dsimp only; omega, q4, fun _ u v hu hv => by rw [← at? (by omega) hu, ← at? (by omega) hv]; exact hc'.1 h4⟩, by dsimp only; omega⟩ rfl (fun _ h => h)
  obtain rfl : i = j := by omega
  have cut := cut_law hw hrA hrB (d1 := i - a) (d2 := mid - i) (by omega) (by omega) (fun h0 u v hu hv => by
    rcases Nat.lt_or_eq_of_le q1 with h5 | h5
    · exact q4 h5 u v (by rw [← hu]; congr 1; omega) hv
    · rcases p6 with h6 | h6
      · omega
      · rw [List.getElem?_eq_none (by omega)] at hv; cases hv) (fun h0 u v hu hv => by
    rcases Nat.lt_or_eq_of_le q3 with h5 | h5
    · exact q5 h5 u v hu (by rw [← hv]; congr 1; omega)
    · rcases p7 with h6 | h6
      · omega
      · rw [List.getElem?_eq_none (by omega)] at hu; cases hu)
  have eA : A = A.take (i - a) ++ A.drop (i - a) := (List.take_append_drop _ _).symm
  have eB : B = B.take (mid - i) ++ B.drop (mid - i) := (List.take_append_drop _ _).symm
  have lA1 : (A.take (i - a)).length = i - a := by rw [List.length_take]; omega
  have lA2 : (A.drop (i - a)).length = m - i := by rw [List.length_drop]; omega
  have lB1 : (B.take (mid - i)).length = mid - i := by rw [List.length_take]; omega
  have lB2 : (B.drop (mid - i)).length = b - (mid + m - i) := by rw [List.length_drop]; omega
  generalize A.take (i - a) = A1 at cut eA lA1
  generalize A.drop (i - a) = A2 at cut eA lA2
  generalize B.take (mid - i) = B1 at cut eB lB1
  generalize B.drop (mid - i) = B2 at cut eB lB2
  obtain ⟨cut1, cut2⟩ := cut
  clear gA gB gA' q4 q5
  subst eA eB
  have rA := List.pairwise_append.1 hrA
  have rB := List.pairwise_append.1 hrB
  refine adv_sound 8 [] rfl ?_
  refine hs rfl rfl rfl (oWr rfl (IntWalk.i64_in _ (by omega))) fun _ _ => ?_
  refine adv_sound 3 [] rfl ?_
  rw [show ((mid + m : Nat) : Int) - (i : Int) = ((mid + m - i : Nat) : Int) by omega]
  refine ct (X := Unit) (fun _ => True) (fun _ => [(0, .slice ad N cap), (1, .int .i64 a), (3, .int .i64 b), (4, .func (.func g) #[] ⟨cb⟩), (18, .int .i64 mid), (20, .int .i64 i), (24, .int .i64 ((mid + m - i : Nat) : Int))]) (fun _ => Ctx J (sl fRec 10 139 ad cap (P ++ (A1 ++ (B1 ++ (A2 ++ (B2 ++ T))))) :: H)) ?_ fun _ _ => ?_
  · rcases (by omega : (i < m ∧ i < mid) ∨ m ≤ i ∨ (i < m ∧ mid ≤ i)) with h5 | h5 | h5
    · refine go ?_
      refine cg (rotRec (P ++ A1) A2 B1 (B2 ++ T) M (by rw [hM]; simp) (by simp; omega) (by omega) (by omega) (by omega) (by omega) hN hl) fun _ _ => ?_
      exact en () trivial rfl (fun _ h => by simpa using h)
    · have e0 : A2 = [] := List.eq_nil_of_length_eq_zero (by omega)
      refine go ?_
      exact en () trivial rfl (fun _ h => by rw [hM] at h; subst e0; simpa using h)
    · have e0 : B1 = [] := List.eq_nil_of_length_eq_zero (by omega)
      refine go ?_
      exact en () trivial rfl (fun _ h => by rw [hM] at h; subst e0; simpa using h)
  have hm2 : (P ++ (A1 ++ (B1 ++ (A2 ++ (B2 ++ T))))).length = N := by rw [← hN, hM]; simp; omega
  refine adv_sound 1 [] rfl ?_
  refine ct (X := List Rec) (fun R => Stab lt (A1 ++ B1) R) (fun _ => [(0, .slice ad N cap), (3, .int .i64 b), (4, .func (.func g) #[] ⟨cb⟩), (18, .int .i64 mid), (20, .int .i64 i), (24, .int .i64 ((mid + m - i : Nat) : Int))]) (fun R => Ctx J (sl fRec 10 139 ad cap (P ++ (R ++ (A2 ++ (B2 ++ T)))) :: H)) ?_ fun R1 hR1 => ?_
  · rcases (by omega : (a < i ∧ i < mid) ∨ i ≤ a ∨ (a < i ∧ mid ≤ i)) with h5 | h5 | h5
    · refine go ?_
      refine cg (ih P A1 B1 (A2 ++ (B2 ++ T)) _ a i mid (by simp at hz; omega) (by omega) (by omega) rfl ha (by omega) (by omega) (fun x hx' => hS x (by simp at hx' ⊢; rcases hx' with h | h <;> simp [h])) rA.1 rB.1 hm2) fun R1 hR1 => ?_
      exact en R1 hR1 rfl (fun _ h => h)
    · have e0 : A1 = [] := List.eq_nil_of_length_eq_zero (by omega)
      refine go ?_
      exact en B1 (by subst e0; exact Stab.refl rB.1) rfl (fun _ h => by subst e0; exact h)
    · have e0 : B1 = [] := List.eq_nil_of_length_eq_zero (by omega)
      refine go ?_
      exact en A1 (by subst e0; rw [List.append_nil]; exact Stab.refl rA.1) rfl (fun _ h => by subst e0; exact h)
  have lR1 : R1.length = mid - a := by rw [hR1.len hw]; simp; omega
  have hm3 : (P ++ (R1 ++ (A2 ++ (B2 ++ T)))).length = N := by rw [← hm2]; simp; omega
  have fin : ∀ R2, Stab lt (A2 ++ B2) R2 → Stab lt ((A1 ++ A2) ++ (B1 ++ B2)) (R1 ++ R2) := fun R2 h => stab_cut hw hrA hrB cut1 cut2 hR1 h
  rcases (by omega : (i < m ∧ mid + m - i < b) ∨ m ≤ i ∨ (i < m ∧ b ≤ mid + m - i)) with h5 | h5 | h5
  · refine go ?_
    refine cg (ih (P ++ R1) A2 B2 T _ mid (mid + m - i) b (by simp at hz; omega) (by omega) (by omega) (by simp) (by simp; omega) (by omega) (by omega) (fun x hx' => hS x (by simp at hx' ⊢; rcases hx' with h | h <;> simp [h])) rA.2.1 rB.2.1 hm3) fun R2 hR2 => ?_
    exact rtE _ (fin R2 hR2) rfl (fun _ h => by simpa using h)
  · have e0 : A2 = [] := List.eq_nil_of_length_eq_zero (by omega)
    refine go ?_
    exact rtE _ (fin B2 (by subst e0; exact Stab.refl rB.2.1)) rfl (fun _ h => by subst e0; simpa using h)
  · have e0 : B2 = [] := List.eq_nil_of_length_eq_zero (by omega)
    refine go ?_
    exact rtE _ (fin A2 (by subst e0; rw [List.append_nil]; exact Stab.refl rA.2.1)) rfl (fun _ h => by subst e0; simpa using h)
end
end
end Go.Proofs.YtimemehaccgmmaaGreatDoor
namespace Go.Proofs.YtimemehaccgmmaaGreatDoor
open Go.RowKit
set_option maxRecDepth 100000
set_option linter.unusedVariables false
set_option linter.unusedSimpArgs false
noncomputable section
section
variable {J : List (World → Prop)} {H : List RC} {ad : Option Addr} {cap g N : Nat} {cb : List Value} {S : Rec → Prop} {lt : Rec → Rec → Bool}
theorem symAllR (hw : Swo lt) (hc : CmT g cb J S vRec lt) (hl : N ≤ 1000) : ∀ z, SymTR J H ad cap g N cb S lt z
  | 0 => fun P A B T M a m b hz h0A => by omega
  | z + 1 => symStepR hw hc hl z (symAllR hw hc hl z)
set_option maxHeartbeats 8000000 in
theorem stabRec (hw : Swo lt) (hc : CmT g cb J S vRec lt) (xs : List Rec) (hN : xs.length = N) (hl : N ≤ 1000) (hS : ∀ x ∈ xs, S x) :
    Tr TP 220 [.slice ad N cap, .int .i64 N, .func (.func g) #[] ⟨cb⟩] (Ctx J (sl fRec 10 139 ad cap xs :: H)) (fun _ : List Rec => .tuple #[]) (fun R => Stab lt xs R) (fun R => Ctx J (sl fRec 10 139 ad cap R :: H)) := by
  refine en0 Tryz.func220 rfl rfl rfl (go ?_)
  refine lp (X := List Rec × List Rec × List Rec) (fun x => xs = x.1 ++ x.2.1 ∧ Ful lt 20 x.1 x.2.2) (fun (Xd, Xt, D) => [(0, .slice ad N cap), (1, .int .i64 N), (2, .func (.func g) #[] ⟨cb⟩), (6, .int .i64 20), (7, .int .i64 D.length), (8, .int .i64 ((D.length + 20 : Nat) : Int))])
    (fun (Xd, Xt, D) => Ctx J (sl fRec 10 139 ad cap (D ++ Xt) :: H)) (fun x => x.2.1.length) ([], xs, []) ⟨rfl, Ful.nil⟩ rfl (fun _ h => h) fun ⟨Xd, Xt, D⟩ ⟨hx1, hF⟩ => ?_
  dsimp only at hx1 hF
  have hDl := hF.len
  have hml : (D ++ Xt).length = N := by rw [← hN, hx1]; simp; omega
  have hml2 : D.length + Xt.length = N := by rw [← hml]; simp
  refine go ?_
  refine ⟨fun h1 => ?_, fun h1 => ?_⟩
  · obtain ⟨X1, X2, rfl, hX1⟩ := cut_len Xt 20 (by omega)
    refine go ?_
    refine cg (insRec (a := D.length) (b := D.length + 20) hw hc X1 D X2 _ rfl rfl (by omega) (fun x hx' => hS x (by rw [hx1]; simp [hx'])) hml hl) fun R hR => ?_
    have hRl := hR.len hw
    exact en (Xd ++ X1, X2, D ++ R) ⟨⟨by simp [hx1], Ful.snoc hF hX1 (by omega) hR⟩, by simp; omega⟩ (by simp [hRl, hX1]) (fun _ h => by simpa using h)
  refine go ?_
  refine cg (insRec (a := D.length) (b := N) hw hc Xt D [] _ (by simp) rfl (by omega) (fun x hx' => hS x (by rw [hx1]; simp [hx'])) hml hl) fun R hR => ?_
  have hB0 : Blk lt 20 xs (D ++ R) := by
    rw [hx1]
    exact hF.blk (Blk.last (by omega) (hR.len hw) hR)
  refine lp (X := Nat × List Rec) (fun x => 0 < x.1 ∧ x.1 ≤ 2000 ∧ Blk lt x.1 xs x.2) (fun (bs, L) => [(0, .slice ad N cap), (1, .int .i64 N), (2, .func (.func g) #[] ⟨cb⟩), (6, .int .i64 bs)])
    (fun (bs, L) => Ctx J (sl fRec 10 139 ad cap L :: H)) (fun x => 2000 - x.1) (20, D ++ R) ⟨by dsimp only; omega, by dsimp only; omega, hB0⟩ rfl (fun _ h => by simpa using h) fun ⟨bs, L⟩ ⟨hbs, hbs2, hB⟩ => ?_
  dsimp only at hbs hbs2 hB
  clear hB0 hR hml hml2 hF hDl hx1 h1
  have hLl : L.length = N := by rw [hB.len, hN]
  refine go ?_
  refine ⟨fun h1 => ?_, fun h1 => ?_⟩
  · refine go ?_
    refine lp (X := List Rec × List Rec × List Rec × List Rec) (fun x => xs = x.1 ++ x.2.2.1 ∧ Ful lt (2 * bs) x.1 x.2.1 ∧ Blk lt bs x.2.2.1 x.2.2.2) (fun (X1, D1, X2, L2) => [(0, .slice ad N cap), (1, .int .i64 N), (2, .func (.func g) #[] ⟨cb⟩), (6, .int .i64 bs), (7, .int .i64 D1.length), (8, .int .i64 ((D1.length : Int) + 2 * bs))])
      (fun (X1, D1, X2, L2) => Ctx J (sl fRec 10 139 ad cap (D1 ++ L2) :: H)) (fun x => x.2.2.1.length) ([], [], xs, L) ⟨rfl, Ful.nil, hB⟩ (by simp) (fun _ h => h) fun ⟨X1, D1, X2, L2⟩ ⟨hx1, hF, hB2⟩ => ?_
    dsimp only at hx1 hF hB2
    have hDl := hF.len
    have hL2 := hB2.len
    have hml2 : D1.length + X2.length = N := by rw [← hN, hx1]; simp; omega
    have hml : (D1 ++ L2).length = N := by simp; omega
    refine go ?_
    refine ⟨fun h2 => ?_, fun h2 => ?_⟩
    · obtain ⟨l1, l2, l3, r1, r2, r3, rfl, rfl, e1, e2, s1, e3, s2, e4, e5, b3, e6⟩ := hB2.two hbs (by omega)
      have hl2 : l2.length = bs := by
        rcases Nat.lt_or_eq_of_le e4 with h3 | h3
        · obtain ⟨rfl, -⟩ := e6 h3
          simp at hml2; omega
        · exact h3
      refine go ?_
      rw [show (D1.length : Int) + (bs : Int) = ((D1.length + bs : Nat) : Int) by omega, show (D1.length : Int) + 2 * (bs : Int) = ((D1.length + bs + bs : Nat) : Int) by omega]
      refine cg (symAllR hw hc hl (r1.length + r2.length) D1 r1 r2 r3 _ D1.length (D1.length + bs) (D1.length + bs + bs) (Nat.le_refl _) (by omega) (by omega) (by simp) rfl (by omega) (by omega) (fun x hx' => hS x (by rw [hx1]; rcases List.mem_append.1 hx' with h | h; simp [s1.mem hw h]; simp [s2.mem hw h])) s1.1 s2.1 hml) fun R hR => ?_
      have hRl := hR.len hw
      rw [List.length_append] at hRl
      exact en (X1 ++ (l1 ++ l2), D1 ++ R, l3, r3) ⟨⟨by simp [hx1], Ful.snoc hF (by simp; omega) (by omega) (Stab.join s1 s2 hR), b3⟩, by simp; omega⟩ (by simp; omega) (fun _ h => by simpa using h)
    · refine go ?_
      refine ⟨fun h3 => ?_, fun h3 => ?_⟩
      · obtain ⟨l1, l2, l3, r1, r2, r3, rfl, rfl, e1, e2, s1, e3, s2, e4, e5, b3, e6⟩ := hB2.two hbs (by omega)
        have hl2 : l2.length < bs := by simp at hml2; omega
        obtain ⟨rfl, rfl⟩ := e6 hl2
        rw [List.append_nil] at hx1 hB2 hL2 hml hml2
        refine go ?_
        rw [show (D1.length : Int) + (bs : Int) = ((D1.length + bs : Nat) : Int) by omega]
        rw [List.length_append] at hml2
        refine cg (symAllR hw hc hl (r1.length + r2.length) D1 r1 r2 [] _ D1.length (D1.length + bs) N (Nat.le_refl _) (by omega) (by omega) (by simp) rfl (by omega) (by omega) (fun x hx' => hS x (by rw [hx1]; rcases List.mem_append.1 hx' with h | h; simp [s1.mem hw h]; simp [s2.mem hw h])) s1.1 s2.1 (by simpa using hml)) fun R hR => ?_
        have hRl := hR.len hw
        rw [List.length_append] at hRl
        refine en (2 * bs, D1 ++ R) ⟨⟨by dsimp only; omega, by dsimp only; omega, ?_⟩, by dsimp only; omega⟩ (by simp; omega) (fun _ h => by simpa using h)
        dsimp only
        rw [hx1]
        exact hF.blk (Blk.last (by simp; omega) (by simp; omega) (Stab.join s1 s2 hR))
      · refine go ?_
        refine en (2 * bs, D1 ++ L2) ⟨⟨by dsimp only; omega, by dsimp only; omega, ?_⟩, by dsimp only; omega⟩ (by simp; omega) (fun _ h => h)
        dsimp only
        rw [hx1]
        exact hF.blk (hB2.short (by omega) (by omega))
  · refine go ?_
    exact rtE L (hB.whole (by omega)) rfl (fun _ h => h)
theorem sortRec (hw : Swo lt) (hc : CmT g cb J S vRec lt) (xs : List Rec) (hN : xs.length = N) (hl : N ≤ 1000) (hS : ∀ x ∈ xs, S x) :
    Tr TP 154 [.slice ad N cap, .func (.func g) #[] ⟨cb⟩] (Ctx J (sl fRec 10 139 ad cap xs :: H)) (fun _ : List Rec => .tuple #[]) (fun R => Stab lt xs R) (fun R => Ctx J (sl fRec 10 139 ad cap R :: H)) := by
  refine en0 Tryz.func154 rfl rfl rfl (go ?_)
  refine cg (stabRec hw hc xs hN hl hS) fun R hR => ?_
  exact rtE R hR rfl (fun _ h => h)
end
end
end Go.Proofs.YtimemehaccgmmaaGreatDoor
namespace Go.Proofs.YtimemehaccgmmaaGreatDoor
open Go.RowKit
set_option maxRecDepth 100000
set_option linter.unusedVariables false
set_option linter.unusedSimpArgs false
noncomputable section
theorem cmL_cons {a b : Int} {x y : List Int} : cmL (a :: x) (b :: y) < 0 ↔ a < b ∨ (a = b ∧ cmL x y < 0) := by
  show (if cmI a b = 0 then cmL x y else cmI a b) < 0 ↔ _
  rcases Int.lt_trichotomy a b with h | h | h
  · rw [show cmI a b = -1 from if_pos h]; simp [h]
  · subst h; rw [show cmI a a = 0 by simp [cmI]]; simp
  · rw [show cmI a b = 1 by unfold cmI; rw [if_neg (by omega), if_pos h]]
    constructor
    · intro h2; simp at h2
    · rintro (h2 | ⟨h2, -⟩) <;> omega
theorem cmL_asym : ∀ (x y : List Int), cmL x y < 0 → ¬ cmL y x < 0
  | [], [], h => by simp [cmL] at h
  | [], _ :: _, h => by simp [cmL]
  | _ :: _, [], h => by simp [cmL] at h
  | a :: x, b :: y, h => by
    have ih := cmL_asym x y
    rw [cmL_cons] at h ⊢
    rintro (h2 | ⟨h2, h3⟩) <;> rcases h with h | ⟨h, h4⟩ <;> first | omega | exact ih h4 h3
theorem cmL_neg : ∀ (x y z : List Int), ¬ cmL y x < 0 → ¬ cmL z y < 0 → ¬ cmL z x < 0
  | [], [], [], _, _ => by simp [cmL]
  | [], [], _ :: _, _, _ => by simp [cmL]
  | [], _ :: _, [], h, h2 => by simp [cmL]
  | [], _ :: _, _ :: _, h, h2 => by simp [cmL]
  | _ :: _, [], _, h, h2 => by simp [cmL] at h
  | _ :: _, _ :: _, [], h, h2 => by simp [cmL] at h2
  | a :: x, b :: y, c :: z, h, h2 => by
    have ih := cmL_neg x y z
    rw [cmL_cons] at h h2 ⊢
    rintro (h3 | ⟨h3, h4⟩)
    · have h5 : ¬ b < a := fun e => h (.inl e)
      have h6 : ¬ c < b := fun e => h2 (.inl e)
      omega
    · have h5 : ¬ b < a := fun e => h (.inl e)
      have h6 : ¬ c < b := fun e => h2 (.inl e)
      have h7 : a = b := by omega
      exact ih (fun e => h (.inr ⟨h7.symm, e⟩)) (fun e => h2 (.inr ⟨by omega, e⟩)) h4
theorem ltK_swo : Swo ltK := ⟨fun x y h => by
  simp only [ltK, decide_eq_true_iff, decide_eq_false_iff_not] at h ⊢
  exact cmL_asym _ _ h, fun x y z h1 h2 => by
  simp only [ltK, decide_eq_false_iff_not] at h1 h2 ⊢
  exact cmL_neg _ _ _ h1 h2⟩
section
variable {P : Program} {n : Fr} {ops : Array Oper} {o : Oper} {L : Env}
abbrev v8 (a : Nat → Int) : Value := .agg #[.int .i64 (a 0), .int .i64 (a 1), .int .i64 (a 2), .int .i64 (a 3), .int .i64 (a 4), .int .i64 (a 5), .int .i64 (a 6), .int .i64 (a 7)]
/-- Arrays of eight numbers are compared. -/
theorem qNeA {x y : Operand} {r : TypeId} {a b : Nat → Int} (ho : o.op = .binOp .neq 136 x y r) (hx : ev L x = some (v8 a)) (hy : ev L y = some (v8 b)) : OQ TP o L none (.bool (!eq8 a b)) := by
  refine ⟨by rw [ho]; rfl, fun ρ w hρ _ => ?_⟩
  have e0 : TP.eqGuardType TP.depth 136 = false := rfl
  have e1 : ∀ xo yo, (eqGuard .neq 136 xo yo (v8 a) (v8 b)).run TP w = .ok () w := fun xo yo => by
    unfold eqGuard
    simp [e0]
  have e2 : (Op.equal 136 (v8 a) (v8 b)).run TP w = .ok (eq8 a b) w := eqA_run _ a b w
  simp only [execOp, ho, hρ _ _ hx, hρ _ _ hy, Sem.run_bind, e1, Result.andThen_ok]
  simp [binOp, e2]
end
def Rec.pl (x : Rec) : List Int × Int × List Fig := (x.ids, x.n, x.f)
theorem eq8_ids {x y : Rec} : eq8 x.a y.a = decide (x.ids = y.ids) := by
  simp [eq8, Rec.ids]
  grind
/-- Figures are laid together. -/
def addF (a b : Fig) : Fig := ⟨IntKind.i64.wrap (a.s + b.s), mnF a.l b.l, mxF a.h b.h⟩
def addR (x y : List Int × Int × List Fig) : List Int × Int × List Fig := (x.1, IntKind.i64.wrap (x.2.1 + y.2.1), List.zipWith addF x.2.2 y.2.2)
def tgS (acc : List (List Int × Int × List Fig)) (r : List Int × Int × List Fig) : List (List Int × Int × List Fig) :=
  match acc.getLast? with
  | some s => if s.1 = r.1 then acc.dropLast ++ [addR s r] else acc ++ [r]
  | none => [r]
def togP (L : List (List Int × Int × List Fig)) : List (List Int × Int × List Fig) := L.foldl tgS []
def figJ (x : Rec) : World → Prop := Rs fFig 3 x.q.1 x.q.2 x.f
end
end Go.Proofs.YtimemehaccgmmaaGreatDoor
