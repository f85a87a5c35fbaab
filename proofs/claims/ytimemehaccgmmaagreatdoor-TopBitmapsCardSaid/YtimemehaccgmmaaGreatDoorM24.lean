/-
  Parts of the walks and their plain laws (Q1 U2 Q2 Q3). No condition.
-/
import Derived.Test.YtimemehaccgmmaaGreatDoorM14
import Derived.Test.YtimemehaccgmmaaGreatDoorM23
import Derived.Test.YtimemehaccgmmaaGreatDoorM08
import Derived.Test.YtimemehaccgmmaaGreatDoorM12
namespace Go.Proofs.YtimemehaccgmmaaGreatDoor
open Go.RowKit
set_option maxRecDepth 100000
set_option linter.unusedVariables false
set_option linter.unusedSimpArgs false
noncomputable section
/-- What a comparing function value tells. -/
abbrev CmT {α : Type} (g : FuncId) (cb : List Value) (J : List (World → Prop)) (S : α → Prop) (vl : α → Value) (lt : α → α → Bool) : Prop :=
  ∀ {J' : List (World → Prop)} {H' : List RC}, (∀ w, allJ J' w → allJ J w) → ∀ x y, S x → S y → Tr TP g (vl x :: vl y :: cb) (Ctx J' H') (fun c : Int => .int .i64 c) (fun c => c < 0 ↔ lt x y = true) (fun _ => Ctx J' H')
theorem g_at {α : Type} {M Q Z : List α} {x : α} {i : Nat} (e : M = Q ++ x :: Z) (hi : Q.length = i) (h : i < M.length) : M[i]'h = x := by subst e hi; simp
theorem sw2 {α : Type} (Q Z : List α) (x z : α) (i : Nat) (hi : Q.length = i) : ((Q ++ z :: x :: Z).set (i + 1) z).set i x = Q ++ x :: z :: Z := by
  subst hi
  rw [List.set_append_right _ _ (by omega), show Q.length + 1 - Q.length = 1 by omega, List.set_append_right _ _ (by omega), Nat.sub_self]
  rfl
abbrev Rw := Q2 × List Vl
abbrev fRw : Rw → List Value := fNs
abbrev vRw (x : Rw) : Value := .slice x.1.1 x.2.length x.1.2
section
variable {J : List (World → Prop)} {H : List RC} {ad : Option Addr} {cap g a b : Nat} {cb : List Value} {S : Rw → Prop} {lt : Rw → Rw → Bool}
set_option maxHeartbeats 8000000 in
theorem insRw (hw : Swo lt) (hc : CmT g cb J S vRw lt) (A P T M : List Rw) (hM : M = P ++ (A ++ T)) (ha : a = P.length) (hb : b = a + A.length) (hS : ∀ x ∈ A, S x) {n : Nat} (hn : M.length = n) (hl : n ≤ 1000) :
    Tr TP 201 [.slice ad n cap, .int .i64 a, .int .i64 b, .func (.func g) #[] ⟨cb⟩] (Ctx J (sl fRw 1 61 ad cap M :: H)) (fun _ : List Rw => .tuple #[]) (fun A' => Stab lt A A') (fun A' => Ctx J (sl fRw 1 61 ad cap (P ++ (A' ++ T)) :: H)) := by
  have hMl : n = P.length + A.length + T.length := by rw [← hn, hM]; simp; omega
  refine en0 Tryz.func201 rfl rfl rfl (go ?_)
  refine lp (X := Nat × List Rw) (fun x => 1 ≤ x.1 ∧ (x.1 ≤ A.length ∨ x.1 = 1) ∧ Stab lt (A.take x.1) x.2) (fun (k, R) => [(0, .slice ad n cap), (1, .int .i64 a), (2, .int .i64 b), (3, .func (.func g) #[] ⟨cb⟩), (8, .int .i64 ((a + k : Nat) : Int))])
    (fun (k, R) => Ctx J (sl fRw 1 61 ad cap (P ++ (R ++ (A.drop k ++ T))) :: H)) (fun x => A.length + 1 - x.1) (1, A.take 1) ⟨Nat.le_refl _, .inr rfl, Stab.refl (by rcases A with _ | ⟨x, A⟩ <;> simp [Rises])⟩ rfl (fun _ h => by rw [hM] at h; dsimp only; rw [← List.append_assoc (A.take 1), List.take_append_drop]; exact h) fun ⟨k, R⟩ ⟨hk1, hk2, hR⟩ => ?_
  dsimp only at hk1 hk2 hR
  have hRl : R.length = (A.take k).length := hR.len hw
  refine go ?_
  refine ⟨fun h1 => ?_, fun h1 => ?_⟩
  · have hk : k < A.length := by omega
    rw [List.length_take, Nat.min_eq_left (by omega)] at hRl
    have eA : A.drop k = A[k] :: A.drop (k + 1) := List.drop_eq_getElem_cons hk
    have eT : A.take (k + 1) = A.take k ++ [A[k]] := (List.take_append_getElem hk).symm
    have hSx := hS A[k] (List.getElem_mem hk)
    generalize A[k] = x at eA eT hSx
    refine go ?_
    refine lp (X := List Rw × List Rw) (fun y => y.1.length + y.2.length = k ∧ Stab lt (A.take k) (y.1 ++ y.2) ∧ ∀ z ∈ y.2, lt x z = true) (fun (L, Z) => [(0, .slice ad n cap), (1, .int .i64 a), (2, .int .i64 b), (3, .func (.func g) #[] ⟨cb⟩), (8, .int .i64 ((a + k : Nat) : Int)), (9, .int .i64 ((a + L.length : Nat) : Int))])
      (fun (L, Z) => Ctx J (sl fRw 1 61 ad cap (P ++ (L ++ x :: (Z ++ (A.drop (k + 1) ++ T)))) :: H)) (fun y => y.1.length) (R, []) ⟨by simpa using hRl, by simpa using hR, by simp⟩ (by simp [hRl]) (fun _ h => by dsimp only at h ⊢; rw [eA] at h; simpa using h) fun ⟨L, Z⟩ ⟨hLZ, hst, hlt⟩ => ?_
    dsimp only at hLZ hst hlt
    have hml : (P ++ (L ++ x :: (Z ++ (A.drop (k + 1) ++ T)))).length = n := by simp only [List.length_append, List.length_cons, List.length_drop]; omega
    refine purH (fun w h => own_ad (show OwnS fRw 1 w 0 61 ad cap (P ++ (L ++ x :: (Z ++ (A.drop (k + 1) ++ T)))) from h) (i := P.length + L.length) (by simp)) fun hp => ?_
    refine go ?_
    rcases List.eq_nil_or_concat L with rfl | ⟨L', z, rfl⟩
    · rw [show decide ((a : Int) < ((a + ([] : List Rw).length : Nat) : Int)) = false from decide_eq_false (by simp)]
      refine go ?_
      exact en (k + 1, x :: Z) ⟨⟨by dsimp only; omega, .inl (by dsimp only; omega), by rw [eT]; exact stab_put hw (L := []) hst hlt (by simp)⟩, by dsimp only; omega⟩ rfl (fun _ h => h)
    · rw [List.concat_eq_append] at hLZ hst hml ⊢
      obtain ⟨j, hj⟩ : ∃ j, a + (L' ++ [z]).length = j + 1 := ⟨a + L'.length, by simp; omega⟩
      have hjl : P.length + L'.length = j := by simp at hj; omega
      have g2 : ((P ++ (L' ++ [z] ++ x :: (Z ++ (A.drop (k + 1) ++ T)))).set (j + 1) z).set j x = P ++ (L' ++ x :: (z :: Z ++ (A.drop (k + 1) ++ T))) := by
        have := sw2 (P ++ L') (Z ++ (A.drop (k + 1) ++ T)) x z j (by simp; omega)
        simpa using this
      have g1 : ∀ h, (P ++ (L' ++ [z] ++ x :: (Z ++ (A.drop (k + 1) ++ T))))[j + 1]'h = x := fun h => g_at (Q := P ++ (L' ++ [z])) (Z := Z ++ (A.drop (k + 1) ++ T)) (by simp) (by simp; omega) h
      have g0 : ∀ h, (P ++ (L' ++ [z] ++ x :: (Z ++ (A.drop (k + 1) ++ T))))[j]'h = z := fun h => g_at (Q := P ++ L') (Z := x :: (Z ++ (A.drop (k + 1) ++ T))) (by simp) (by simp; omega) h
      dsimp only
      rw [hj]
      generalize hM' : P ++ (L' ++ [z] ++ x :: (Z ++ (A.drop (k + 1) ++ T))) = M' at hml g0 g1 g2 ⊢
      rw [show decide ((a : Int) < ((j + 1 : Nat) : Int)) = true from decide_eq_true (by simp at hj; omega)]
      refine go ?_
      rw [show ((j + 1 : Nat) : Int) - 1 = (j : Int) by omega]
      refine go ?_
      rw [g1, g0]
      have hSz : S z := by
        have : z ∈ A.take k := (hst.mem hw (by simp))
        exact hS z (List.mem_of_mem_take this)
      refine cg (hc (fun w j => j) x z hSx hSz) fun c hc' => ?_
      refine ⟨fun h2 => gpl ?_, fun h2 => ?_⟩
      · rw [show ((j + 1 : Nat) : Int) - 1 = (j : Int) by omega]
        refine dIx (i := j) (m := n) hp (by omega) (dA rfl ?_)
        refine dIx (i := j + 1) (m := n) hp (by omega) (dA rfl ?_)
        refine go ?_
        rw [g0, g1, show ((j + 1 : Nat) : Int) - 1 = (j : Int) by omega]
        have hlx := hc'.1 h2
        refine en (L', z :: Z) ⟨⟨by simp at hLZ ⊢; omega, by simpa using hst, fun y hy => by rcases List.mem_cons.1 hy with rfl | h3; exact hlx; exact hlt _ h3⟩, by simp⟩ (by rw [show j = a + L'.length by omega]; rfl) (fun _ h => by have h' : Ctx J (sl fRw 1 61 ad cap ((M'.set (j + 1) z).set j x) :: H) _ := h; rw [g2] at h'; exact h')
      · have hlx : lt x z = false := by
          cases e : lt x z with
          | false => rfl
          | true => exact absurd (hc'.2 e) h2
        refine go ?_
        refine en (k + 1, L' ++ [z] ++ x :: Z) ⟨⟨by dsimp only; omega, .inl (by dsimp only; omega), by rw [eT]; exact stab_put hw hst hlt (last_le hw (hst.1.sublist (List.sublist_append_left ..)) hlx)⟩, by dsimp only; omega⟩ rfl (fun _ h => by rw [← hM'] at h; simpa using h)
  · refine go ?_
    have hd : A.drop k = [] := List.drop_of_length_le (by omega)
    have ht : A.take k = A := List.take_of_length_le (by omega)
    rw [ht] at hR
    exact rtE R hR rfl (fun _ h => by dsimp only at h; rw [hd] at h; exact h)
end
end
end Go.Proofs.YtimemehaccgmmaaGreatDoor
namespace Go.Proofs.YtimemehaccgmmaaGreatDoor
open Go.RowKit
set_option maxRecDepth 100000
set_option linter.unusedVariables false
set_option linter.unusedSimpArgs false
noncomputable section
/-- A case. -/
structure CaD where
  lq : Q2
  l : List Col
  g : Cfg
  a : CfA
  rq : Q2
  rows : List Rw
  qq : Q2
  qs : List Qr
def caC (x : CaD) : List Value := [.slice x.lq.1 x.l.length x.lq.2, .int .i64 x.g.sort, .slice x.a.i.1 x.g.inv.length x.a.i.2, .slice x.a.r.1 x.g.rng.length x.a.r.2, .slice x.a.s.1 x.g.split.length x.a.s.2, .int .i64 x.g.leaf, .slice x.rq.1 x.rows.length x.rq.2, .slice x.qq.1 x.qs.length x.qq.2]
def caF (d : Nat) (x : CaD) : List (World → Prop) := [Rs fC 2 x.lq.1 x.lq.2 x.l, Bn (gF' x.g x.a), Rs fRw 1 x.rq.1 x.rq.2 x.rows, AllR fV 3 x.rows, Rs fQr 16 x.qq.1 x.qq.2 x.qs, AllE (QrIn d) x.qs]
structure TameP (x : CaD) : Prop where
  l : x.l.length ≤ 10
  r : x.rows.length ≤ 60
  s : x.g.split.length ≤ 4
  i : x.g.inv.length ≤ 10
  g : x.g.rng.length ≤ 10
  w : ∀ r ∈ x.rows, r.2.length ≤ 10
  t : ∀ r ∈ x.rows, ∀ v ∈ r.2, v.s.size ≤ 100
section
variable {J : List (World → Prop)} {H : List RC} {d : Nat} {x : CaD}
set_option maxHeartbeats 4000000 in
theorem cTame (hJ : Ent J (Bn (caF d x))) : Tr TP 5 [.agg ⟨caC x⟩] (Ctx J H) (fun b : Bool => .bool b) (fun b => b = true → TameP x) (fun _ => Ctx J H) := by
  refine en0 Tryz.func5 rfl rfl rfl ?_
  refine go ?_
  intro b

  refine ⟨fun h1 => ?_, fun h1 => ?_⟩
  · refine go ?_
    exact rt false (fun h => nomatch h) rfl (fun _ h => h.rest)
  refine go ?_
  refine ⟨fun h2 => ?_, fun h2 => ?_⟩
  · refine go ?_
    exact rt false (fun h => nomatch h) rfl (fun _ h => h.rest)
  refine go ?_
  refine ⟨fun h3 => ?_, fun h3 => ?_⟩
  · refine go ?_
    exact rt false (fun h => nomatch h) rfl (fun _ h => h.rest)
  refine go ?_
  refine ⟨fun h4 => ?_, fun h4 => ?_⟩
  · refine go ?_
    exact rt false (fun h => nomatch h) rfl (fun _ h => h.rest)
  refine go ?_
  refine ⟨fun h5 => ?_, fun h5 => ?_⟩
  · refine go ?_
    exact rt false (fun h => nomatch h) rfl (fun _ h => h.rest)
  refine go ?_
  refine ⟨fun h6 => ?_, fun h6 => ?_⟩
  · refine go ?_
    exact rt false (fun h => nomatch h) rfl (fun _ h => h.rest)
  refine go ?_
  refine addJ (R := Rs fQr 16 x.qq.1 x.qq.2 x.qs) (fun w j => (hJ w j).out.2.2.2.2.1) ?_
  refine lp (X := Nat) (fun i => i ≤ x.qs.length) (fun i => [(1, .pointer (some ⟨b, 0, none⟩)), (2, .bool false), (45, .int .i64 x.qs.length), (46, .int .i64 i)])
    (fun _ => Ctx (Rs fQr 16 x.qq.1 x.qq.2 x.qs :: J) (pt b 30 (caC x) :: H)) (fun i => x.qs.length - i) 0 (Nat.zero_le _) rfl (fun _ h => h) fun i hi => ?_
  refine go ?_
  refine ⟨fun g1 => ?_, fun g1 => ?_⟩
  · have hi1 : i < x.qs.length := by omega
    refine go ?_
    refine ca (cGreat (d := d) (x := x.qs[i]) (fun w j => (hJ w j.2).out.2.2.2.2.2.1 _ (List.getElem_mem hi1))) fun bb _ => ?_
    cases bb with
    | true =>
      refine go ?_
      exact rt false (fun h => nomatch h) rfl (fun _ h => h.rest.ent fun _ j => j.2)
    | false =>
      refine go ?_
      exact en (i + 1) ⟨by omega, by omega⟩ rfl (fun _ h => h)
  refine go ?_
  refine drJ (addJ (R := AllR fV 3 x.rows) (fun w j => (hJ w j).out.2.2.2.1) (addJ (R := Rs fRw 1 x.rq.1 x.rq.2 x.rows) (fun w j => (hJ w j.2).out.2.2.1) ?_))
  refine lp (X := Nat) (fun i => i ≤ x.rows.length ∧ ∀ k (h : k < x.rows.length), k < i → x.rows[k].2.length ≤ 10 ∧ ∀ v ∈ x.rows[k].2, v.s.size ≤ 100) (fun i => [(1, .pointer (some ⟨b, 0, none⟩)), (2, .bool false), (58, .int .i64 x.rows.length), (59, .int .i64 i)])
    (fun _ => Ctx (Rs fRw 1 x.rq.1 x.rq.2 x.rows :: AllR fV 3 x.rows :: J) (pt b 30 (caC x) :: H)) (fun i => x.rows.length - i) 0 ⟨Nat.zero_le _, fun k _ h => absurd h (Nat.not_lt_zero _)⟩ rfl (fun _ h => h) fun i ⟨hi, hall⟩ => ?_
  refine go ?_
  refine ⟨fun g1 => ?_, fun g1 => ?_⟩
  · have hi1 : i < x.rows.length := by omega
    refine go ?_
    refine ⟨fun g2 => ?_, fun g2 => ?_⟩
    · refine go ?_
      exact rt false (fun h => nomatch h) rfl (fun _ h => h.rest.ent fun _ j => j.2.2)
    refine go ?_
    refine addJ (R := Rs fV 3 x.rows[i].1.1 x.rows[i].1.2 x.rows[i].2) (fun w j => j.2.1.at hi1) ?_
    have hl10 : x.rows[i].2.length ≤ 10 := by omega
    refine lp (X := Nat) (fun j => j ≤ x.rows[i].2.length ∧ ∀ k (h : k < x.rows[i].2.length), k < j → x.rows[i].2[k].s.size ≤ 100) (fun j => [(1, .pointer (some ⟨b, 0, none⟩)), (2, .bool false), (4, .int .i64 i), (58, .int .i64 x.rows.length), (59, .int .i64 i), (74, .int .i64 x.rows[i].2.length), (75, .int .i64 j)])
      (fun _ => Ctx (Rs fV 3 x.rows[i].1.1 x.rows[i].1.2 x.rows[i].2 :: Rs fRw 1 x.rq.1 x.rq.2 x.rows :: AllR fV 3 x.rows :: J) (pt b 30 (caC x) :: H)) (fun j => x.rows[i].2.length - j) 0 ⟨Nat.zero_le _, fun k _ h => absurd h (Nat.not_lt_zero _)⟩ rfl (fun _ h => h) fun j ⟨hj, hall2⟩ => ?_
    refine go ?_
    refine ⟨fun g3 => ?_, fun g3 => ?_⟩
    · have hj1 : j < x.rows[i].2.length := by omega
      refine go ?_
      refine ⟨fun g4 => ?_, fun g4 => ?_⟩
      · refine go ?_
        exact rt false (fun h => nomatch h) rfl (fun _ h => h.rest.ent fun _ j => j.2.2.2)
      refine go ?_
      refine en (j + 1) ⟨⟨by omega, fun k h hk => ?_⟩, by omega⟩ rfl (fun _ h => h)
      rcases Nat.lt_or_eq_of_le (Nat.le_of_lt_succ hk) with h5 | h5
      · exact hall2 k h h5
      · subst h5; omega
    · refine go ?_
      refine en (i + 1) ⟨⟨by omega, fun k h hk => ?_⟩, by omega⟩ rfl (fun _ h => h.ent fun _ j => j.2)
      rcases Nat.lt_or_eq_of_le (Nat.le_of_lt_succ hk) with h5 | h5
      · exact hall k h h5
      · subst h5
        refine ⟨hl10, fun v hv => ?_⟩
        obtain ⟨m, hm, rfl⟩ := List.getElem_of_mem hv
        exact hall2 m hm (by omega)
  · refine go ?_
    refine rt true (fun _ => ⟨by omega, by omega, by omega, by omega, by omega, fun r hr => ?_, fun r hr => ?_⟩) rfl (fun _ h => h.rest.ent fun _ j => j.2.2)
    · obtain ⟨k, hk, rfl⟩ := List.getElem_of_mem hr
      exact (hall k hk (by omega)).1
    · obtain ⟨k, hk, rfl⟩ := List.getElem_of_mem hr
      exact (hall k hk (by omega)).2
end
end
end Go.Proofs.YtimemehaccgmmaaGreatDoor
namespace Go.Proofs.YtimemehaccgmmaaGreatDoor
open Go.RowKit
set_option maxRecDepth 100000
set_option linter.unusedVariables false
set_option linter.unusedSimpArgs false
noncomputable section
theorem xch_far {α : Type} (A B C : List α) (x y : α) (i j : Nat) (hi : A.length = i) (hj : i + 1 + B.length = j) : ((A ++ x :: (B ++ y :: C)).set i y).set j x = A ++ y :: (B ++ x :: C) := by
  subst hi hj
  rw [List.set_append_right _ _ (by omega), Nat.sub_self, List.set_cons_zero, List.set_append_right _ _ (by omega), show A.length + 1 + B.length - A.length = B.length + 1 by omega, List.set_cons_succ, List.set_append_right _ _ (by omega), Nat.sub_self, List.set_cons_zero]
theorem drop_at {α : Type} {l : List α} {k : Nat} (h : k < l.length) : l.drop k = l[k] :: l.drop (k + 1) := List.drop_eq_getElem_cons h
section
variable {J : List (World → Prop)} {H : List RC} {ad : Option Addr} {cap a b m : Nat} {g : Value}
set_option maxHeartbeats 8000000 in
theorem swapRw (P X Q Y S M : List Rw) (n : Nat) (hM : M = P ++ (X ++ (Q ++ (Y ++ S)))) (ha : a = P.length) (hb : b = a + n + Q.length) (hX : X.length = n) (hY : Y.length = n) {N : Nat} (hN : M.length = N) (hl : N ≤ 1000) :
    Tr TP 291 [.slice ad N cap, .int .i64 a, .int .i64 b, .int .i64 n, g] (Ctx J (sl fRw 1 61 ad cap M :: H)) (fun _ : Unit => .tuple #[]) (fun _ => True) (fun _ => Ctx J (sl fRw 1 61 ad cap (P ++ (Y ++ (Q ++ (X ++ S)))) :: H)) := by
  have hMl : N = P.length + n + Q.length + n + S.length := by rw [← hN, hM]; simp; omega
  refine en0 Tryz.func291 rfl rfl rfl (go ?_)
  refine lp (X := Nat) (fun k => k ≤ n) (fun k => [(0, .slice ad N cap), (1, .int .i64 a), (2, .int .i64 b), (3, .int .i64 n), (10, .int .i64 k)])
    (fun k => Ctx J (sl fRw 1 61 ad cap (P ++ (Y.take k ++ X.drop k ++ (Q ++ (X.take k ++ Y.drop k ++ S)))) :: H)) (fun k => n - k) 0 (by omega) rfl (fun _ h => by rw [hM] at h; simpa using h) fun k hk => ?_
  have hml : (P ++ (Y.take k ++ X.drop k ++ (Q ++ (X.take k ++ Y.drop k ++ S)))).length = N := by simp; omega
  refine go ?_
  refine ⟨fun h1 => ?_, fun h1 => ?_⟩
  · have hk1 : k < n := by omega
    have e1 : X.drop k = X[k] :: X.drop (k + 1) := drop_at (by omega)
    have e2 : Y.drop k = Y[k] :: Y.drop (k + 1) := drop_at (by omega)
    have e3 : X.take (k + 1) = X.take k ++ [X[k]] := (List.take_append_getElem (by omega)).symm
    have e4 : Y.take (k + 1) = Y.take k ++ [Y[k]] := (List.take_append_getElem (by omega)).symm
    generalize X[k] = x at e1 e3
    generalize Y[k] = y at e2 e4
    have eM : P ++ (Y.take k ++ X.drop k ++ (Q ++ (X.take k ++ Y.drop k ++ S))) = (P ++ Y.take k) ++ x :: ((X.drop (k + 1) ++ (Q ++ X.take k)) ++ y :: (Y.drop (k + 1) ++ S)) := by rw [e1, e2]; simp
    have eN : P ++ (Y.take (k + 1) ++ X.drop (k + 1) ++ (Q ++ (X.take (k + 1) ++ Y.drop (k + 1) ++ S))) = (P ++ Y.take k) ++ y :: ((X.drop (k + 1) ++ (Q ++ X.take k)) ++ x :: (Y.drop (k + 1) ++ S)) := by rw [e3, e4]; simp
    have g2 := xch_far (P ++ Y.take k) (X.drop (k + 1) ++ (Q ++ X.take k)) (Y.drop (k + 1) ++ S) x y (a + k) (b + k) (by simp; omega) (by simp; omega)
    rw [← eM, ← eN] at g2
    have g0 : ∀ h, (P ++ (Y.take k ++ X.drop k ++ (Q ++ (X.take k ++ Y.drop k ++ S))))[a + k]'h = x := fun h => g_at eM (by simp; omega) h
    have g1 : ∀ h, (P ++ (Y.take k ++ X.drop k ++ (Q ++ (X.take k ++ Y.drop k ++ S))))[b + k]'h = y := fun h => g_at (Q := (P ++ Y.take k) ++ x :: (X.drop (k + 1) ++ (Q ++ X.take k))) (Z := Y.drop (k + 1) ++ S) (by rw [eM]; simp) (by simp; omega) h
    generalize P ++ (Y.take k ++ X.drop k ++ (Q ++ (X.take k ++ Y.drop k ++ S))) = M' at hml g0 g1 g2 ⊢
    refine purH (fun w h => own_ad (show OwnS fRw 1 w 0 61 ad cap M' from h) (i := 0) (by omega)) fun hp => ?_
    refine gpl ?_
    rw [show (a : Int) + (k : Int) = ((a + k : Nat) : Int) by omega, show (b : Int) + (k : Int) = ((b + k : Nat) : Int) by omega]
    refine dIx (i := b + k) (m := N) hp (by omega) (dA rfl ?_)
    refine dIx (i := a + k) (m := N) hp (by omega) (dA rfl ?_)
    refine go ?_
    rw [g0, g1, g2]
    exact en (k + 1) (by omega) rfl (fun _ h => h)
  · obtain rfl : k = n := by omega
    refine go ?_
    exact rtE () trivial rfl (fun _ h => by rw [List.take_of_length_le (by omega), List.take_of_length_le (by omega), List.drop_of_length_le (by omega), List.drop_of_length_le (by omega)] at h; simpa using h)
set_option maxHeartbeats 8000000 in
theorem rotRw (P X Y S M : List Rw) (hM : M = P ++ (X ++ (Y ++ S))) (ha : a = P.length) (hm : m = a + X.length) (hb : b = m + Y.length) (hX : 0 < X.length) (hY : 0 < Y.length) {N : Nat} (hN : M.length = N) (hl : N ≤ 1000) :
    Tr TP 247 [.slice ad N cap, .int .i64 a, .int .i64 m, .int .i64 b, g] (Ctx J (sl fRw 1 61 ad cap M :: H)) (fun _ : Unit => .tuple #[]) (fun _ => True) (fun _ => Ctx J (sl fRw 1 61 ad cap (P ++ (Y ++ (X ++ S))) :: H)) := by
  have hMl : N = P.length + X.length + Y.length + S.length := by rw [← hN, hM]; simp; omega
  refine en0 Tryz.func247 rfl rfl rfl (go ?_)
  refine lp (X := List Rw × List Rw × List Rw × List Rw) (fun y => 0 < y.2.1.length ∧ 0 < y.2.2.1.length ∧ y.1.length + y.2.1.length = m ∧ y.1 ++ (y.2.2.1 ++ (y.2.1 ++ y.2.2.2)) = P ++ (Y ++ (X ++ S))) (fun (P', U, V, S') => [(0, .slice ad N cap), (2, .int .i64 m), (4, g), (10, .int .i64 U.length), (11, .int .i64 V.length)])
    (fun (P', U, V, S') => Ctx J (sl fRw 1 61 ad cap (P' ++ (U ++ (V ++ S'))) :: H)) (fun y => y.2.1.length + y.2.2.1.length) (P, X, Y, S) ⟨hX, hY, by dsimp only; omega, rfl⟩ (by simp; omega) (fun _ h => by rw [hM] at h; exact h) fun ⟨P', U, V, S'⟩ ⟨hU, hV, hPU, hE⟩ => ?_
  dsimp only at hU hV hPU hE
  have hml : (P' ++ (U ++ (V ++ S'))).length = N := by
    have := congrArg List.length hE
    simp only [List.length_append] at this ⊢; omega
  refine go ?_
  refine ⟨fun h1 => ?_, fun h1 => ?_⟩
  · refine go ?_
    refine ⟨fun h2 => ?_, fun h2 => ?_⟩
    · obtain ⟨U1, U2, rfl, hU1⟩ := cut_len U V.length (by omega)
      have hUl : (U1 ++ U2).length = U1.length + U2.length := List.length_append
      refine go ?_
      rw [show (m : Int) - ((U1 ++ U2).length : Int) = ((P'.length : Nat) : Int) by omega]
      refine cg (swapRw P' U1 U2 V S' _ V.length (by simp) rfl (by omega) hU1 rfl hml hl) fun _ _ => ?_
      exact en (P' ++ V, U2, U1, S') ⟨⟨by dsimp only; omega, by dsimp only; omega, by simp; omega, by simpa using hE⟩, by simp; omega⟩ (by simp; omega) (fun _ h => by simpa using h)
    · obtain ⟨V1, V2, rfl, hV1⟩ := cut_len V (V.length - U.length) (by omega)
      have hVl : (V1 ++ V2).length = V1.length + V2.length := List.length_append
      have hml3 : P'.length + U.length + (V1 ++ V2).length + S'.length = N := by rw [← hml]; simp; omega
      refine go ?_
      rw [show (m : Int) - (U.length : Int) = ((P'.length : Nat) : Int) by omega, show (m : Int) + ((V1 ++ V2).length : Int) - (U.length : Int) = ((m + V1.length : Nat) : Int) by omega]
      refine cg (swapRw P' U V1 V2 S' _ U.length (by simp) rfl (by omega) rfl (by omega) hml hl) fun _ _ => ?_
      exact en (P', V2, V1, U ++ S') ⟨⟨by dsimp only; omega, by dsimp only; omega, by simp; omega, by simpa using hE⟩, by simp; omega⟩ (by simp; omega) (fun _ h => by simpa using h)
  · refine go ?_
    rw [show (m : Int) - (U.length : Int) = ((P'.length : Nat) : Int) by omega]
    refine cg (swapRw P' U [] V S' _ U.length (by simp) rfl (by simp; omega) rfl (by omega) hml hl) fun _ _ => ?_
    exact rtE () trivial rfl (fun _ h => by rw [List.nil_append, hE] at h; exact h)
end
end
end Go.Proofs.YtimemehaccgmmaaGreatDoor
namespace Go.Proofs.YtimemehaccgmmaaGreatDoor
open Go.RowKit
set_option maxRecDepth 100000
set_option linter.unusedVariables false
set_option linter.unusedSimpArgs false
noncomputable section
theorem half (i j : Nat) : ((i : Int) + (j : Int)) / 2 ^ min 1 IntKind.u64.bits = (((i + j) / 2 : Nat) : Int) := by rw [show min 1 IntKind.u64.bits = 1 from rfl]; omega
theorem sw1 {α : Type} (Q Z : List α) (x y : α) (i : Nat) (hi : Q.length = i) : ((Q ++ x :: y :: Z).set i y).set (i + 1) x = Q ++ y :: x :: Z := xch_far Q [] Z x y i (i + 1) hi rfl
theorem at? {α : Type} {l : List α} {i : Nat} (h : i < l.length) {y : α} (e : l[i]? = some y) : l[i] = y := by rw [List.getElem?_eq_getElem h] at e; exact Option.some.inj e
section
variable {J : List (World → Prop)} {H : List RC} {ad : Option Addr} {cap g a b m N : Nat} {cb : List Value} {S : Rw → Prop} {lt : Rw → Rw → Bool}
set_option maxHeartbeats 8000000 in
theorem symLRw (hw : Swo lt) (hc : CmT g cb J S vRw lt) (P B T M : List Rw) (x : Rw) (hM : M = P ++ (x :: (B ++ T))) (ha : a = P.length) (hm : m = a + 1) (hb : b = m + B.length) (hS : S x ∧ ∀ y ∈ B, S y) (hB : Rises lt B) (hN : M.length = N) (hl : N ≤ 1000) :
    Tr TP 202 [.slice ad N cap, .int .i64 a, .int .i64 m, .int .i64 b, .func (.func g) #[] ⟨cb⟩] (Ctx J (sl fRw 1 61 ad cap M :: H)) (fun _ : List Rw => .tuple #[]) (fun R => Stab lt ([x] ++ B) R) (fun R => Ctx J (sl fRw 1 61 ad cap (P ++ (R ++ T)) :: H)) := by
  have hMl : N = P.length + 1 + B.length + T.length := by rw [← hN, hM]; simp; omega
  have gx : ∀ h, M[a]'h = x := fun h => g_at hM (by omega) h
  have gB : ∀ t (ht : t < B.length) h, M[m + t]'h = B[t] := fun t ht h => by
    have e : B ++ T = B.take t ++ (B[t] :: (B.drop (t + 1) ++ T)) := by rw [← List.cons_append, ← drop_at ht, ← List.append_assoc, List.take_append_drop]
    refine g_at (Q := P ++ (x :: B.take t)) (Z := B.drop (t + 1) ++ T) ?_ (by simp; omega) h
    rw [hM, e]; simp
  refine en0 Tryz.func202 rfl rfl rfl (go ?_)
  refine lp (X := Nat × Nat) (fun y => y.1 ≤ y.2 ∧ y.2 ≤ B.length ∧ (0 < y.1 → ∀ z, B[y.1 - 1]? = some z → lt z x = true) ∧ (∀ z, B[y.2]? = some z → lt z x = false)) (fun (i, j) => [(0, .slice ad N cap), (1, .int .i64 a), (2, .int .i64 m), (3, .int .i64 b), (4, .func (.func g) #[] ⟨cb⟩), (10, .int .i64 ((m + i : Nat) : Int)), (11, .int .i64 ((m + j : Nat) : Int))])
    (fun _ => Ctx J (sl fRw 1 61 ad cap M :: H)) (fun y => y.2 - y.1) (0, B.length) ⟨by omega, by simp, by simp, by simp⟩ (by rw [hb]; rfl) (fun _ h => h) fun ⟨i, j⟩ ⟨hij, hj, h1, h2⟩ => ?_
  dsimp only at hij hj h1 h2
  refine go ?_
  refine ⟨fun h3 => ?_, fun h3 => ?_⟩
  · have hlt : i < j := by omega
    refine go ?_
    obtain ⟨t, ht⟩ : ∃ t, (m + i + (m + j)) / 2 = m + t ∧ i ≤ t ∧ t < j := ⟨(i + j) / 2, by omega⟩
    rw [half, IntWalk.i64_in _ (by omega), ht.1]
    refine go ?_
    rw [gB t (by omega), gx]
    refine cg (hc (fun w j => j) B[t] x (hS.2 _ (List.getElem_mem _)) hS.1) fun c hc' => ?_
    refine ⟨fun h4 => ?_, fun h4 => ?_⟩
    · refine go ?_
      exact en (t + 1, j) ⟨⟨by dsimp only; omega, hj, fun _ z hz => by rw [← at? (by omega) hz]; exact hc'.1 h4, h2⟩, by dsimp only; omega⟩ rfl (fun _ h => h)
    · refine go ?_
      exact en (i, t) ⟨⟨by dsimp only; omega, by dsimp only; omega, h1, fun z hz => by
        rw [← at? (by omega) hz]
        cases e : lt B[t] x with
        | false => rfl
        | true => exact absurd (hc'.2 e) h4⟩, by dsimp only; omega⟩ rfl (fun _ h => h)
  · obtain rfl : i = j := by omega
    refine go ?_
    have hst := left_law hw hj hB h1 h2
    refine lp (X := Nat) (fun t => t ≤ i) (fun t => [(0, .slice ad N cap), (10, .int .i64 ((m + i : Nat) : Int)), (13, .int .i64 ((a + t : Nat) : Int))])
      (fun t => Ctx J (sl fRw 1 61 ad cap (P ++ (B.take t ++ x :: (B.drop t ++ T))) :: H)) (fun t => i - t) 0 (by omega) rfl (fun _ h => by rw [hM] at h; simpa using h) fun t ht => ?_
    refine go ?_
    refine ⟨fun h3 => ?_, fun h3 => ?_⟩
    · have hlt : t < i := by omega
      have e1 : B.drop t = B[t] :: B.drop (t + 1) := drop_at (by omega)
      have e2 : B.take (t + 1) = B.take t ++ [B[t]] := (List.take_append_getElem (by omega)).symm
      generalize B[t] = y at e1 e2
      have eM : P ++ (B.take t ++ x :: (B.drop t ++ T)) = (P ++ B.take t) ++ x :: y :: (B.drop (t + 1) ++ T) := by rw [e1]; simp
      have g2 := sw1 (P ++ B.take t) (B.drop (t + 1) ++ T) x y (a + t) (by simp; omega)
      have g0 : ∀ h, (P ++ (B.take t ++ x :: (B.drop t ++ T)))[a + t]'h = x := fun h => g_at eM (by simp; omega) h
      have g1 : ∀ h, (P ++ (B.take t ++ x :: (B.drop t ++ T)))[a + t + 1]'h = y := fun h => g_at (Q := P ++ B.take t ++ [x]) (Z := B.drop (t + 1) ++ T) (by rw [eM]; simp) (by simp; omega) h
      have hml : (P ++ (B.take t ++ x :: (B.drop t ++ T))).length = N := by simp; omega
      rw [← eM, show (P ++ B.take t) ++ y :: x :: (B.drop (t + 1) ++ T) = P ++ (B.take (t + 1) ++ x :: (B.drop (t + 1) ++ T)) by rw [e2]; simp] at g2
      generalize P ++ (B.take t ++ x :: (B.drop t ++ T)) = M' at hml g0 g1 g2 ⊢
      refine purH (fun w h => own_ad (show OwnS fRw 1 w 0 61 ad cap M' from h) (i := 0) (by omega)) fun hp => ?_
      refine gpl ?_
      rw [show ((a + t : Nat) : Int) + 1 = ((a + t + 1 : Nat) : Int) by omega]
      refine dIx (i := a + t + 1) (m := N) hp (by omega) (dA rfl ?_)
      refine dIx (i := a + t) (m := N) hp (by omega) (dA rfl ?_)
      refine go ?_
      rw [g0, g1, g2]
      exact en (t + 1) (by omega) rfl (fun _ h => h)
    · obtain rfl : t = i := by omega
      refine go ?_
      exact rt _ hst rfl (fun _ h => by simpa using h)
set_option maxHeartbeats 8000000 in
theorem symRRw (hw : Swo lt) (hc : CmT g cb J S vRw lt) (P A T M : List Rw) (y : Rw) (hM : M = P ++ (A ++ y :: T)) (ha : a = P.length) (hm : m = a + A.length) (hb : b = m + 1) (h2A : 2 ≤ A.length) (hS : S y ∧ ∀ x ∈ A, S x) (hrA : Rises lt A) (hN : M.length = N) (hl : N ≤ 1000) :
    Tr TP 202 [.slice ad N cap, .int .i64 a, .int .i64 m, .int .i64 b, .func (.func g) #[] ⟨cb⟩] (Ctx J (sl fRw 1 61 ad cap M :: H)) (fun _ : List Rw => .tuple #[]) (fun R => Stab lt (A ++ [y]) R) (fun R => Ctx J (sl fRw 1 61 ad cap (P ++ (R ++ T)) :: H)) := by
  have hMl : N = P.length + A.length + 1 + T.length := by rw [← hN, hM]; simp; omega
  have gy : ∀ h, M[m]'h = y := fun h => g_at (Q := P ++ A) (Z := T) (by rw [hM]; simp) (by simp; omega) h
  have gA : ∀ t (ht : t < A.length) h, M[a + t]'h = A[t] := fun t ht h => by
    have e : A ++ y :: T = A.take t ++ (A[t] :: (A.drop (t + 1) ++ y :: T)) := by rw [← List.cons_append, ← drop_at ht, ← List.append_assoc, List.take_append_drop]
    refine g_at (Q := P ++ A.take t) (Z := A.drop (t + 1) ++ y :: T) ?_ (by simp; omega) h
    rw [hM, e]; simp
  refine en0 Tryz.func202 rfl rfl rfl (go ?_)
  refine lp (X := Nat × Nat) (fun z => z.1 ≤ z.2 ∧ z.2 ≤ A.length ∧ (0 < z.1 → ∀ x, A[z.1 - 1]? = some x → lt y x = false) ∧ (∀ x, A[z.2]? = some x → lt y x = true)) (fun (i, j) => [(0, .slice ad N cap), (1, .int .i64 a), (2, .int .i64 m), (3, .int .i64 b), (4, .func (.func g) #[] ⟨cb⟩), (14, .int .i64 ((a + i : Nat) : Int)), (15, .int .i64 ((a + j : Nat) : Int))])
    (fun _ => Ctx J (sl fRw 1 61 ad cap M :: H)) (fun y => y.2 - y.1) (0, A.length) ⟨by omega, by simp, by simp, by simp⟩ (by subst hm; rfl) (fun _ h => h) fun ⟨i, j⟩ ⟨hij, hj, h1, h2⟩ => ?_
  dsimp only at hij hj h1 h2
  refine go ?_
  refine ⟨fun h3 => ?_, fun h3 => ?_⟩
  · have hlt : i < j := by omega
    refine go ?_
    obtain ⟨t, ht⟩ : ∃ t, (a + i + (a + j)) / 2 = a + t ∧ i ≤ t ∧ t < j := ⟨(i + j) / 2, by omega⟩
    rw [half, IntWalk.i64_in _ (by omega), ht.1]
    refine go ?_
    rw [gA t (by omega), gy]
    refine cg (hc (fun w j => j) y A[t] hS.1 (hS.2 _ (List.getElem_mem _))) fun c hc' => ?_
    refine ⟨fun h4 => ?_, fun h4 => ?_⟩
    · refine go ?_
      exact en (t + 1, j) ⟨⟨by dsimp only; omega, hj, fun _ z hz => by
        rw [← at? (by omega) hz]
        cases e : lt y A[t] with
        | false => exact e
        | true => exact absurd (hc'.2 e) h4, h2⟩, by dsimp only; omega⟩ rfl (fun _ h => h)
    · refine go ?_
      exact en (i, t) ⟨⟨by dsimp only; omega, by dsimp only; omega, h1, fun z hz => by rw [← at? (by omega) hz]; exact hc'.1 h4⟩, by dsimp only; omega⟩ rfl (fun _ h => h)
  · obtain rfl : i = j := by omega
    refine go ?_
    have hst := right_law hw hj hrA h1 h2
    refine lp (X := Nat) (fun t => i ≤ t ∧ t ≤ A.length) (fun t => [(0, .slice ad N cap), (14, .int .i64 ((a + i : Nat) : Int)), (17, .int .i64 ((a + t : Nat) : Int))])
      (fun t => Ctx J (sl fRw 1 61 ad cap (P ++ (A.take t ++ y :: (A.drop t ++ T))) :: H)) (fun t => t - i) A.length ⟨hj, Nat.le_refl _⟩ (by subst hm; rfl) (fun _ h => by rw [hM] at h; simpa using h) fun t ⟨ht, ht2⟩ => ?_
    refine go ?_
    refine ⟨fun h3 => ?_, fun h3 => ?_⟩
    · obtain ⟨u, rfl⟩ : ∃ u, t = u + 1 := ⟨t - 1, by omega⟩
      have e1 : A.drop u = A[u] :: A.drop (u + 1) := drop_at (by omega)
      have e2 : A.take (u + 1) = A.take u ++ [A[u]] := (List.take_append_getElem (by omega)).symm
      generalize A[u] = x at e1 e2
      have eM : P ++ (A.take (u + 1) ++ y :: (A.drop (u + 1) ++ T)) = (P ++ A.take u) ++ x :: y :: (A.drop (u + 1) ++ T) := by rw [e2]; simp
      have g2 := sw2 (P ++ A.take u) (A.drop (u + 1) ++ T) y x (a + u) (by simp; omega)
      rw [show a + u + 1 = a + (u + 1) from rfl] at g2
      have g0 : ∀ h, (P ++ (A.take (u + 1) ++ y :: (A.drop (u + 1) ++ T)))[a + u]'h = x := fun h => g_at eM (by simp; omega) h
      have g1 : ∀ h, (P ++ (A.take (u + 1) ++ y :: (A.drop (u + 1) ++ T)))[a + (u + 1)]'h = y := fun h => g_at (Q := P ++ A.take u ++ [x]) (Z := A.drop (u + 1) ++ T) (by rw [eM]; simp) (by simp; omega) h
      have hml : (P ++ (A.take (u + 1) ++ y :: (A.drop (u + 1) ++ T))).length = N := by simp; omega
      rw [← eM, show (P ++ A.take u) ++ y :: x :: (A.drop (u + 1) ++ T) = P ++ (A.take u ++ y :: (A.drop u ++ T)) by rw [e1]; simp] at g2
      generalize P ++ (A.take (u + 1) ++ y :: (A.drop (u + 1) ++ T)) = M' at hml g0 g1 g2 ⊢
      refine purH (fun w h => own_ad (show OwnS fRw 1 w 0 61 ad cap M' from h) (i := 0) (by omega)) fun hp => ?_
      refine gpl ?_
      rw [show ((a + (u + 1) : Nat) : Int) - 1 = ((a + u : Nat) : Int) by omega]
      refine dIx (i := a + u) (m := N) hp (by omega) (dA rfl ?_)
      refine dIx (i := a + (u + 1)) (m := N) hp (by omega) (dA rfl ?_)
      refine go ?_
      rw [g0, g1, g2, show ((a + (u + 1) : Nat) : Int) - 1 = ((a + u : Nat) : Int) by omega]
      exact en u ⟨⟨by omega, by omega⟩, by omega⟩ rfl (fun _ h => h)
    · obtain rfl : t = i := by omega
      refine go ?_
      exact rt _ hst rfl (fun _ h => by simpa using h)
end
end
end Go.Proofs.YtimemehaccgmmaaGreatDoor
