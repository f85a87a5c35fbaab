/-
  Parts of the walks and their plain laws (P4 P5 X1 X2 X3 E36). No condition.
-/
import Derived.Test.YtimemehaccgmmaaGreatDoorM23
import Derived.Test.YtimemehaccgmmaaGreatDoorM14
import Derived.Laws.StructEq
import Derived.Test.YtimemehaccgmmaaGreatDoorM17
namespace Go.Proofs.YtimemehaccgmmaaGreatDoor
open Go.RowKit
set_option maxRecDepth 100000
set_option linter.unusedVariables false
set_option linter.unusedSimpArgs false
noncomputable section
/-- One number more, behind all. -/
def spS (A : List (Nat × Nat)) (v : Nat) : List (Nat × Nat) := if 0 < A.length ∧ (A.getD (A.length - 1) (0, 0)).2 = v then A.set (A.length - 1) ((A.getD (A.length - 1) (0, 0)).1, v + 1) else A ++ [(v, v + 1)]
/-- The spans of numbers in order. -/
def spO (l : List Nat) : List (Nat × Nat) := l.foldl spS []
section
variable {A : List (Nat × Nat)} {v n : Nat}
theorem spS_set (h : A.length - 1 < A.length) (e : A[A.length - 1].2 = v) : spS A v = A.set (A.length - 1) (A[A.length - 1].1, v + 1) := by
  unfold spS
  rw [List.getD_eq_getElem?_getD, List.getElem?_eq_getElem h, Option.getD_some, if_pos ⟨by omega, e⟩]
theorem spS_app (e : ∀ h : A.length - 1 < A.length, A[A.length - 1].2 ≠ v) : spS A v = A ++ [(v, v + 1)] := by
  unfold spS
  rw [if_neg]
  rintro ⟨h1, h2⟩
  have h : A.length - 1 < A.length := by omega
  rw [List.getD_eq_getElem?_getD, List.getElem?_eq_getElem h, Option.getD_some] at h2
  exact e h h2
theorem spO_snoc (l : List Nat) (v : Nat) : spO (l ++ [v]) = spS (spO l) v := by simp [spO]
structure SpOk (A : List (Nat × Nat)) (n : Nat) : Prop where
  lt : ∀ i (h : i < A.length), A[i].1 < A[i].2 ∧ A[i].2 ≤ n
  up : ∀ i (h : i + 1 < A.length), A[i].2 < A[i + 1].1
theorem SpOk.mono {m : Nat} (h : SpOk A n) (hm : n ≤ m) : SpOk A m := ⟨fun i hi => ⟨(h.lt i hi).1, Nat.le_trans (h.lt i hi).2 hm⟩, h.up⟩
theorem SpOk.nil : SpOk [] n := ⟨fun i h => absurd h (Nat.not_lt_zero _), fun i h => absurd h (Nat.not_lt_zero _)⟩
theorem SpOk.snoc (h : SpOk A n) (hv : n ≤ v) : SpOk (spS A v) (v + 1) := by
  by_cases hc : ∃ h : A.length - 1 < A.length, A[A.length - 1].2 = v
  · obtain ⟨h1, e⟩ := hc
    rw [spS_set h1 e]
    have hk := h.lt _ h1
    refine ⟨fun i hi => ?_, fun i hi => ?_⟩
    · rw [List.length_set] at hi
      have hl := h.lt i hi
      rw [List.getElem_set]
      split
      · dsimp only; omega
      · omega
    · rw [List.length_set] at hi
      have hu := h.up i hi
      rw [List.getElem_set, List.getElem_set, if_neg (by omega)]
      split
      · next h2 =>
        have e2 : A[A.length - 1] = A[i + 1] := by congr 1
        show A[i].2 < A[A.length - 1].1
        exact e2 ▸ hu
      · exact hu
  · rw [spS_app fun h1 e => hc ⟨h1, e⟩]
    refine ⟨fun i hi => ?_, fun i hi => ?_⟩
    · rw [List.length_append, List.length_singleton] at hi
      rcases Nat.lt_or_ge i A.length with h1 | h1
      · rw [List.getElem_append_left h1]
        have := h.lt i h1; omega
      · rw [List.getElem_append_right h1]
        simp only [List.getElem_singleton]; omega
    · rw [List.length_append, List.length_singleton] at hi
      rcases Nat.lt_or_ge (i + 1) A.length with h1 | h1
      · rw [List.getElem_append_left h1, List.getElem_append_left (by omega)]
        exact h.up i h1
      · have h2 : i < A.length := by omega
        rw [List.getElem_append_left h2, List.getElem_append_right h1]
        simp only [List.getElem_singleton]
        have h3 := h.lt i h2
        have h5 : A.length - 1 = i := by omega
        have h4 : A[i].2 ≠ v := fun e => hc ⟨by omega, by simp only [h5]; exact e⟩
        show A[i].2 < v
        omega
theorem spO_ok (p : Nat → Bool) : ∀ n, SpOk (spO (fl p n)) n
  | 0 => SpOk.nil
  | n + 1 => by
    cases e : p n with
    | true => rw [fl_t e, spO_snoc]; exact (spO_ok p n).snoc (Nat.le_refl _)
    | false => rw [fl_f e]; exact (spO_ok p n).mono (Nat.le_succ _)
theorem spS_len : (spS A v).length ≤ A.length + 1 := by unfold spS; split <;> simp
theorem spS_pos : 0 < (spS A v).length := by unfold spS; split <;> simp <;> omega
theorem spO_len (p : Nat → Bool) : ∀ n, (spO (fl p n)).length ≤ n
  | 0 => Nat.le_refl _
  | n + 1 => by
    have := spO_len p n
    cases e : p n with
    | true => rw [fl_t e, spO_snoc]; have := spS_len (A := spO (fl p n)) (v := n); omega
    | false => rw [fl_f e]; omega
theorem spO_pos {l : List Nat} (h : 0 < l.length) : 0 < (spO l).length := by
  have hne : l ≠ [] := fun e => by rw [e] at h; cases h
  rw [← List.dropLast_concat_getLast hne, spO_snoc]
  exact spS_pos
/-- What stands in bytes is the rows' own. -/
theorem pI_at {ids : List Nat} {id i : Nat} (h : i < ids.length) : pI ids id i = decide (ids[i] = id) := by
  unfold pI
  rw [List.getElem?_eq_getElem h]
  by_cases e : ids[i] = id <;> simp [e]
theorem pL_at {ids : List Nat} {k i : Nat} (h : i < ids.length) : pL ids k i = decide (ids[i] < k) := by
  unfold pL
  rw [List.getElem?_eq_getElem h]
theorem pI_ge {ids : List Nat} {id i : Nat} (h : ids.length ≤ i) : pI ids id i = false := by
  unfold pI
  rw [List.getElem?_eq_none h]; rfl
theorem pL_ge {ids : List Nat} {k i : Nat} (h : ids.length ≤ i) : pL ids k i = false := by
  unfold pL
  rw [List.getElem?_eq_none h]
end
/-- Numbers of two bytes. -/
def w2 (l : List Nat) : List Int := l.flatMap fun v : Nat => le 2 (v : Int)
/-- Runs, one number behind another. -/
def rw2 (l : List (Nat × Nat)) : List Nat := l.flatMap fun r => [r.1, r.2]
section
variable {p : Nat → Bool} {xs A B : List Int} {l l' : List Nat} {r : List (Nat × Nat)} {i j : Nat}
theorem w2_app : w2 (l ++ l') = w2 l ++ w2 l' := by simp [w2]
theorem w2_len : ∀ l : List Nat, (w2 l).length = 2 * l.length
  | [] => rfl
  | x :: l => by have := w2_len l; simp only [w2, List.flatMap_cons, List.length_append, le_len, List.length_cons] at this ⊢; omega
theorem w2_at (h : xs = A ++ (w2 l ++ B)) (hi : i < l.length) (hj : j = A.length + 2 * i) : sub xs j (j + 2) = le 2 ((l[i] : Nat) : Int) ∧ j + 2 ≤ xs.length := by
  have e1 : l = l.take i ++ ([l[i]] ++ l.drop (i + 1)) := by simp
  have e2 : w2 l = w2 (l.take i) ++ (le 2 ((l[i] : Nat) : Int) ++ w2 (l.drop (i + 1))) := by
    conv => lhs; rw [e1]
    rw [w2_app, w2_app]; simp [w2]
  have hl : (w2 (l.take i)).length = 2 * i := by rw [w2_len, List.length_take]; omega
  have e3 : xs = (A ++ w2 (l.take i)) ++ (le 2 ((l[i] : Nat) : Int) ++ (w2 (l.drop (i + 1)) ++ B)) := by rw [h, e2]; simp
  refine ⟨sub_at _ _ _ e3 (by rw [List.length_append, hl, hj]) (by rw [List.length_append, hl, le_len, hj]), ?_⟩
  have := congrArg List.length e3
  simp only [List.length_append, hl, le_len] at this
  omega
theorem rw2_len : ∀ r : List (Nat × Nat), (rw2 r).length = 2 * r.length
  | [] => rfl
  | x :: r => by have := rw2_len r; simp only [rw2, List.flatMap_cons, List.length_append, List.length_cons, List.length_nil] at this ⊢; omega
theorem rw2_at : ∀ (r : List (Nat × Nat)) (i : Nat) (h : i < r.length) (h1 : 2 * i < (rw2 r).length) (h2 : 2 * i + 1 < (rw2 r).length), (rw2 r)[2 * i] = r[i].1 ∧ (rw2 r)[2 * i + 1] = r[i].2
  | x :: r, 0, _, _, _ => ⟨rfl, rfl⟩
  | x :: r, i + 1, h, h1, h2 => by
    have hi : i < r.length := by simpa using h
    have hl := rw2_len r
    have := rw2_at r i hi (by omega) (by omega)
    simp only [rw2, List.flatMap_cons] at this ⊢
    simpa [Nat.mul_add] using this
theorem img_A (h : cn p ≠ 3) : img p = w2 ([12346, 0, 1, 0, 0, (fl p 64).length - 1, 16, 0] ++ fl p 64) := by
  unfold img bd
  rw [if_neg h, if_neg h, w2_app]
  have e : hdA (fl p 64).length = w2 [12346, 0, 1, 0, 0, (fl p 64).length - 1, 16, 0] := by
    have e1 : le 4 12346 = le 2 12346 ++ le 2 0 := by decide
    have e2 : le 4 1 = le 2 1 ++ le 2 0 := by decide
    have e3 : le 4 16 = le 2 16 ++ le 2 0 := by decide
    unfold hdA w2
    rw [e1, e2, e3]
    simp
  rw [e]; rfl
theorem bR_w2 : ∀ r : List (Nat × Nat), bR r = w2 (rw2 r)
  | [] => rfl
  | x :: r => by
    have := bR_w2 r
    simp only [bR, rw2, List.flatMap_cons] at this ⊢
    rw [this, w2_app]; simp [w2]
theorem img_R (h : cn p = 3) : img p = w2 [12347, 0] ++ ([1] ++ w2 ([0, (fl p 64).length - 1, (rn p).length] ++ rw2 (rn p))) := by
  unfold img bd hdR
  rw [if_pos h, if_pos h, w2_app, bR_w2]
  simp [w2]
end
/-- A span. -/
def fSp (x : Nat × Nat) : List Value := [.int .u64 (x.1 : Nat), .int .u64 (x.2 : Nat)]
instance : Lies fSp 2 := ⟨fun _ => rfl, fun x v h => by simp [fSp] at h; rcases h with rfl | rfl <;> rfl, by decide⟩
def edS (A : List (Nat × Nat)) (i : Nat) (x : Bool) : Nat := if h : i < A.length then (if x then A[i].2 else A[i].1) else 4611686018427387904
section
variable {J : List (World → Prop)} {H : List RC} {ad ad2 : Option Addr} {cap cap2 i : Nat} {A B : List (Nat × Nat)} {x y : Bool}
theorem edS_f (h : i < A.length) : edS A i false = A[i].1 := by simp [edS, h]
theorem edS_t (h : i < A.length) : edS A i true = A[i].2 := by simp [edS, h]
theorem edS_n (h : ¬ i < A.length) : edS A i x = 4611686018427387904 := by simp [edS, h]
theorem cEdge {v : Nat} (e : edS A i x = v) (hl : A.length ≤ 1000) (hi : i ≤ 1000) (hJ : Ent J (Rs fSp 2 ad cap A)) : Tr TP 111 [.slice ad A.length cap, .int .i64 i, .bool x] (Ctx J H) (fun _ : Unit => .int .u64 (v : Nat)) (fun _ => True) (fun _ => Ctx J H) := by
  refine en0 Tryz.func111 rfl rfl rfl (addJ hJ (go ?_))
  refine ⟨fun h => ?_, fun h => ?_⟩
  · refine go ?_
    rw [← e, edS_n (by omega)]
    exact rt () trivial rfl (fun _ h => h.ent fun _ j => j.2)
  · have hi1 : i < A.length := by omega
    cases x with
    | true =>
      refine go ?_
      rw [← e, edS_t hi1]
      exact rt () trivial rfl (fun _ h => h.ent fun _ j => j.2)
    | false =>
      refine go ?_
      rw [← e, edS_f hi1]
      exact rt () trivial rfl (fun _ h => h.ent fun _ j => j.2)
theorem cIn2 : Tr TP 112 [.bool x, .bool y, .int .i64 2] (Ctx J H) (fun _ : Unit => .bool (x || y)) (fun _ => True) (fun _ => Ctx J H) := by
  refine en0 Tryz.func112 rfl rfl rfl (go ?_)
  refine ⟨fun h => ?_, fun h => ?_⟩
  · subst h
    refine go ?_
    exact rt () trivial rfl (fun _ h => h)
  · subst h
    refine go ?_
    exact rt () trivial rfl (fun _ h => h)
theorem cSpan {row : Nat} (hr : row ≤ 1000) : Tr TP 48 [.int .u64 (row : Nat), .int .u64 ((row + 1 : Nat) : Int)] (Ctx J H) (fun q : Nat => .slice (some ⟨q, 0, none⟩) 1 1) (fun _ => True) (fun q => Ctx J (sl fSp 2 223 (some ⟨q, 0, none⟩) 1 [(row, row + 1)] :: H)) := by
  refine en0 Tryz.func48 rfl rfl rfl (go ?_)
  intro b
  refine p2s (f := fSp) [(row, row + 1)] rfl (by simp) ?_
  exact rt b trivial rfl (fun _ h => h)
theorem spE (x : Nat × Nat) (w : World) : (binOp .neq 223 (.agg #[.int .u64 (x.1 : Nat), .int .u64 (x.2 : Nat)]) (.agg #[.int .u64 (x.1 : Nat), .int .u64 (x.2 : Nat)])).run TP w = .ok (.bool false) w := by
  have u1 : TP.underlying 111 = some (.int .u64) := by kernel_rfl
  have hS : TP.underlying 223 = some (.struct (TP.fieldsOf 223)) := by kernel_rfl
  have hp : TP.stoodInHeld 223 = false := by kernel_rfl
  have a1 : ∀ w, (isAgg 111).run TP w = .ok false w := fun w => by simp [isAgg, run_underlying u1]
  rw [run_neq_struct, show (10000 : Nat) = 9999 + 1 from rfl, run_equalIn_agg w 9999 223 _ _ hS hp]
  simp only [Program.fieldsOf, Tryz.underlying223]
  go_simp
theorem cSame (hl : A.length ≤ 1000) (hJ : Ent J (Rs fSp 2 ad cap A)) (hJ2 : Ent J (Rs fSp 2 ad2 cap2 A)) : Tr TP 49 [.slice ad A.length cap, .slice ad2 A.length cap2] (Ctx J H) (fun _ : Unit => .bool true) (fun _ => True) (fun _ => Ctx J H) := by
  refine en0 Tryz.func49 rfl rfl rfl (addJ hJ2 (addJ (fun w j => hJ w j.2) (go ?_)))
  refine lp (X := Nat) (fun i => i ≤ A.length) (fun i => [(0, .slice ad A.length cap), (1, .slice ad2 A.length cap2), (5, .int .i64 i)]) (fun _ => Ctx (Rs fSp 2 ad cap A :: Rs fSp 2 ad2 cap2 A :: J) H) (fun i => A.length - i) 0 (Nat.zero_le _) rfl (fun _ h => h) fun i hi => ?_
  refine go ?_
  refine ⟨fun h1 => ?_, fun h1 => ?_⟩
  · have hi1 : i < A.length := by omega
    refine go ?_
    refine kq (kB 0) rfl (qN (qEq rfl rfl rfl rfl (by kernel_rfl) (spE _)) (fun _ _ => trivial) rfl rfl rfl (dA rfl ?_))
    refine go ?_
    exact en (i + 1) ⟨by omega, by omega⟩ (by simp) (fun _ h => h)
  · refine go ?_
    exact rt () trivial rfl (fun _ h => h.ent fun _ j => j.2.2)
set_option maxHeartbeats 8000000 in
theorem cBoth {row : Nat} (hsa : SpOk A row) (hr : row ≤ 1000) (hl : A.length ≤ 1000) (hJ : Ent J (Rs fSp 2 ad cap A)) (hJ2 : Ent J (Rs fSp 2 ad2 cap2 [(row, row + 1)])) :
    Tr TP 47 [.slice ad A.length cap, .slice ad2 1 cap2, .int .i64 2] (Ctx J H) (fun q : Q2 => .slice q.1 (spS A row).length q.2) (fun _ => True) (fun q => Ctx J (sl fSp 2 223 q.1 q.2 (spS A row) :: H)) := by
  have hSl := spS_len (A := A) (v := row)
  refine en0 Tryz.func47 rfl rfl rfl (addJ hJ2 (addJ (fun w j => hJ w j.2) (go ?_)))
  refine pre (fun w h => Ctx.nl (f := fSp) (sz := 2) (e := 223) h) ?_
  refine lp (X := Nat × Bool × Nat × Bool × Nat × List (Nat × Nat) × Q2)
    (fun (i, x, k, y, last, out, q) => (k = 0 ∧ y = false ∧ i ≤ A.length ∧ out = A.take i ∧ (x = true → ∃ h : i < A.length, last = A[i].1) ∧ (x = false → i = 0 ∧ last = 0 ∨ ∃ h : 0 < i, ∃ h2 : i - 1 < A.length, last = A[i - 1].2)) ∨
      (k = 0 ∧ y = true ∧ i = A.length ∧ x = false ∧ out = A ∧ last = row) ∨ (k = 1 ∧ y = false ∧ i = A.length ∧ x = false ∧ out = spS A row ∧ last = row + 1))
    (fun (i, x, k, y, last, out, q) => [(0, .slice ad A.length cap), (1, .slice ad2 1 cap2), (2, .int .i64 2), (7, .slice q.1 out.length q.2), (8, .int .i64 i), (9, .int .i64 k), (10, .bool x), (11, .bool y), (12, .int .u64 (last : Nat))])
    (fun (i, x, k, y, last, out, q) => Ctx (Rs fSp 2 ad cap A :: Rs fSp 2 ad2 cap2 [(row, row + 1)] :: J) (sl fSp 2 223 q.1 q.2 out :: H))
    (fun (i, x, k, y, last, out, q) => if k = 1 then 0 else if y then 5 else 10 + 2 * (A.length - i) + (if x then 0 else 1)) (0, false, 0, false, 0, [], (none, 0)) (.inl ⟨rfl, rfl, Nat.zero_le _, rfl, (fun h => nomatch h), fun _ => .inl ⟨rfl, rfl⟩⟩) rfl (fun _ h => h) fun (i, x, k, y, last, out, q) hI => ?_
  dsimp only at hI
  dsimp only
  obtain ⟨M, hM⟩ : ∃ M : Nat, M = 4611686018427387904 := ⟨_, rfl⟩
  rcases hI with ⟨rfl, rfl, hi, hout, hx1, hx0⟩ | ⟨rfl, rfl, hi, rfl, hout, rfl⟩ | ⟨hk, hy, hi, hx', rfl, hla⟩
  · have hol : out.length = i := by rw [hout, List.length_take]; omega
    refine go ?_
    refine ⟨fun h1 => ?_, fun h1 => ?_⟩
    · have hi1 : i < A.length := by simpa using h1
      have hlt := hsa.lt i hi1
      cases x with
      | false =>
        refine go ?_
        refine ca (cEdge (A := A) (i := i) (x := false) (v := A[i].1) (edS_f hi1) hl (by omega) (J := Rs fSp 2 ad cap A :: Rs fSp 2 ad2 cap2 [(row, row + 1)] :: J) (by exact fun w j => j.1)) fun _ _ => ?_
        refine go ?_
        refine ca (cEdge (A := [(row, row + 1)]) (i := 0) (x := false) (v := row) rfl (by simp) (by omega) (J := Rs fSp 2 ad cap A :: Rs fSp 2 ad2 cap2 [(row, row + 1)] :: J) (by exact fun w j => j.2.1)) fun _ _ => ?_
        refine go ?_
        refine ca (cIn2 (x := false) (y := false)) fun _ _ => ?_
        refine go ?_
        exact en (i, true, 0, false, A[i].1, out, q) ⟨.inl ⟨rfl, rfl, hi, hout, fun _ => ⟨hi1, rfl⟩, (fun h => nomatch h)⟩, by simp⟩ (by simp) (fun _ h => h)
      | true =>
        obtain ⟨-, rfl⟩ := hx1 rfl
        refine go ?_
        refine ca (cEdge (A := A) (i := i) (x := true) (v := A[i].2) (edS_t hi1) hl (by omega) (J := Rs fSp 2 ad cap A :: Rs fSp 2 ad2 cap2 [(row, row + 1)] :: J) (by exact fun w j => j.1)) fun _ _ => ?_
        refine go ?_
        refine ca (cEdge (A := [(row, row + 1)]) (i := 0) (x := false) (v := row) rfl (by simp) (by omega) (J := Rs fSp 2 ad cap A :: Rs fSp 2 ad2 cap2 [(row, row + 1)] :: J) (by exact fun w j => j.2.1)) fun _ _ => ?_
        refine go ?_
        refine ca (cIn2 (x := true) (y := false)) fun _ _ => ?_
        refine go ?_
        have hap : out ++ [A[i]] = A.take (i + 1) := by rw [hout]; exact List.take_append_getElem hi1
        refine ⟨fun h2 => ?A1, fun h2 => ?B1⟩
        case' A1 =>
          have h3 : i - 1 < out.length := by omega
          have h4 : out[i - 1].2 < A[i].1 := by
            subst hout
            rw [List.getElem_take]
            have h5 := hsa.up (i - 1) (by omega)
            have h6 : i - 1 + 1 = i := by omega
            simp only [h6] at h5
            exact h5
          have h5 : out.length - 1 = i - 1 := by omega
          refine go ?_
          rw [show (out.length : Int) - 1 = ((i - 1 : Nat) : Int) by omega]
          refine ⟨fun _ => ?_, fun h => nomatch h⟩
        all_goals
          refine go ?_
          intro bb q2
          refine ⟨fun h7 => ?_, fun h7 => ?_⟩
          · refine go ?_
            have h8 : i + 1 = A.length := by
              rcases Nat.lt_or_ge (i + 1) A.length with h9 | h9
              · have := hsa.up i h9
                have := hsa.lt (i + 1) h9
                omega
              · omega
            exact en (i + 1, false, 0, true, A[i].2, out ++ [A[i]], q2) ⟨.inr (.inl ⟨rfl, rfl, h8, rfl, by rw [hap, h8]; exact List.take_length, by dsimp only; omega⟩), by simp; omega⟩ (by simp) (fun _ h => h)
          · refine go ?_
            exact en (i + 1, false, 0, false, A[i].2, out ++ [A[i]], q2) ⟨.inl ⟨rfl, rfl, by omega, hap, (fun h => nomatch h), fun _ => .inr ⟨by omega, by simpa using hi1, by simp⟩⟩, by simp; omega⟩ (by simp) (fun _ h => h)
    · have hiA : i = A.length := by omega
      cases x with
      | true => obtain ⟨h2, -⟩ := hx1 rfl; omega
      | false =>
        refine go ?_
        refine ca (cEdge (A := A) (i := i) (x := false) (v := M) (by rw [edS_n (by omega), hM]) hl (by omega) (J := Rs fSp 2 ad cap A :: Rs fSp 2 ad2 cap2 [(row, row + 1)] :: J) (by exact fun w j => j.1)) fun _ _ => ?_
        refine go ?_
        refine ca (cEdge (A := [(row, row + 1)]) (i := 0) (x := false) (v := row) rfl (by simp) (by omega) (J := Rs fSp 2 ad cap A :: Rs fSp 2 ad2 cap2 [(row, row + 1)] :: J) (by exact fun w j => j.2.1)) fun _ _ => ?_
        refine go ?_
        refine ca (cIn2 (x := false) (y := false)) fun _ _ => ?_
        refine go ?_
        refine en (i, false, 0, true, row, out, q) ⟨.inr (.inl ⟨rfl, rfl, hiA, rfl, by rw [hout]; exact List.take_of_length_le (by omega), rfl⟩), by simp; omega⟩ (by simp) (fun _ h => h)
  · refine go ?_
    refine ca (cEdge (A := A) (i := i) (x := false) (v := M) (by rw [edS_n (by omega), hM]) hl (by omega) (J := Rs fSp 2 ad cap A :: Rs fSp 2 ad2 cap2 [(last, last + 1)] :: J) (by exact fun w j => j.1)) fun _ _ => ?_
    refine go ?_
    refine ca (cEdge (A := [(last, last + 1)]) (i := 0) (x := true) (v := last + 1) rfl (by simp) (by omega) (J := Rs fSp 2 ad cap A :: Rs fSp 2 ad2 cap2 [(last, last + 1)] :: J) (by exact fun w j => j.2.1)) fun _ _ => ?_
    refine go ?_
    refine ca (cIn2 (x := false) (y := true)) fun _ _ => ?_
    refine go ?_
    have hol : out.length = A.length := by rw [hout]
    refine ⟨fun h2 => ?A2, fun h2 => ?B2⟩
    case' A2 =>
      have h3 : out.length - 1 < out.length := by omega
      refine go ?_
      rw [show (out.length : Int) - 1 = ((out.length - 1 : Nat) : Int) by omega]
      refine ⟨fun _ => ?_, fun h => nomatch h⟩
      refine go ?_
      refine ⟨fun h7 => ?C2, fun h7 => ?D2⟩
      case C2 =>
        refine go ?_
        rw [show (out.length : Int) - 1 = ((out.length - 1 : Nat) : Int) by omega]
        refine go ?_
        refine hA0 rfl rfl (oSf (f := fSp) (k := 0) (i := out.length - 1) (y := (out[out.length - 1].1, last + 1)) rfl rfl rfl rfl h3 rfl rfl rfl rfl) rfl ?_
        refine go ?_
        have hsx : spS A last = out.set (out.length - 1) (out[out.length - 1].1, last + 1) := by
          rw [← hout]
          exact spS_set h3 (by omega)
        exact en (i, false, 1, false, last + 1, out.set (out.length - 1) (out[out.length - 1].1, last + 1), q) ⟨.inr (.inr ⟨rfl, rfl, hi, rfl, hsx.symm, rfl⟩), by simp⟩ (by simp) (fun _ h => h)
    all_goals
      have hsx : spS A last = out ++ [(last, last + 1)] := by
        rw [← hout]
        exact spS_app fun h e => by first | (exact h7 (by omega)) | omega
      refine go ?_
      intro bb
      refine ap1 (f := fSp) (last, last + 1) (hv := rfl) fun q2 => ?_
      refine go ?_
      exact en (i, false, 1, false, last + 1, out ++ [(last, last + 1)], q2) ⟨.inr (.inr ⟨rfl, rfl, hi, rfl, hsx.symm, rfl⟩), by simp⟩ (by simp) (fun _ h => h)
  · refine go ?_
    exact rt q trivial rfl (fun _ h => h.ent fun _ j => j.2.2)
end
/-- What reads parts. -/
abbrev mo (b : Nat) (q : Q2) (xs : List Int) (i : Nat) : RC := pt b 217 [.slice q.1 xs.length q.2, .int .i64 i, .bool false]
section
variable {J : List (World → Prop)} {H : List RC} {b : Nat} {q : Q2} {xs : List Int} {i m : Nat}
set_option maxHeartbeats 8000000 in
theorem cTake9 (hi : i + m ≤ xs.length) (hb : xs.length ≤ 100000000) (hJ : Ent J (Rs f8 1 q.1 q.2 xs) := by exact jA) :
    Tr TP 184 [pb b, .int .i64 m] (Ctx J (mo b q xs i :: H)) (fun s : Q2 => .slice s.1 (sub xs i (i + m)).length s.2) (fun _ => True) (fun s => Ctx (Rs f8 1 s.1 s.2 (sub xs i (i + m)) :: J) (mo b q xs (i + m) :: H)) := by
  have hl := sub_length xs (a := i) hi
  refine en0 Tryz.func184 rfl rfl rfl (addJ hJ (go ?_))
  rw [show (i : Int) + m - m = i by omega, show (i : Int) + m = ((i + m : Nat) : Int) by omega]
  refine go ?_
  intro s
  exact rt s trivial rfl (fun _ h => h.ent fun _ j => ⟨j.1, j.2.2⟩)
theorem two_eq {v : Nat} (hv : v < 65536) (h0 : 0 < (le 2 (v : Int)).length) (h1 : 1 < (le 2 (v : Int)).length) : IntKind.i64.wrap (IntKind.i64.wrap (le 2 (v : Int))[0] + IntKind.i64.wrap ((256 : Int) * IntKind.i64.wrap (le 2 (v : Int))[1])) = (v : Int) := by
  have e0 : (le 2 (v : Int))[0] = (v : Int) % 256 := by simp [le]
  have e1 : (le 2 (v : Int))[1] = (v : Int) / 256 % 256 := by simp [le]
  rw [e0, e1, IntWalk.i64_in ((v : Int) % 256) (by omega), IntWalk.i64_in ((v : Int) / 256 % 256) (by omega), IntWalk.i64_in (256 * ((v : Int) / 256 % 256)) (by omega), IntWalk.i64_in _ (by omega)]
  omega
theorem cTwo9 {v : Nat} (hs : sub xs i (i + 2) = le 2 (v : Int)) (hv : v < 65536) (hi : i + 2 ≤ xs.length) (hb : xs.length ≤ 100000000) (hJ : Ent J (Rs f8 1 q.1 q.2 xs) := by exact jA) :
    Tr TP 108 [pb b] (Ctx J (mo b q xs i :: H)) (fun _ : Unit => .int .i64 (v : Nat)) (fun _ => True) (fun _ => Ctx J (mo b q xs (i + 2) :: H)) := by
  refine en0 Tryz.func108 rfl rfl rfl (go ?_)
  refine ca (cTake9 (m := 2) hi hb hJ) fun s _ => ?_
  rw [hs]
  refine go ?_
  rw [two_eq hv]
  exact rt () trivial rfl (fun _ h => h.ent fun _ j => j.2)
theorem cFour9 {v w : Nat} (hs : sub xs i (i + 2) = le 2 (v : Int)) (hs2 : sub xs (i + 2) (i + 4) = le 2 (w : Int)) (hv : v < 65536) (hw : w < 65536) (hi : i + 4 ≤ xs.length) (hb : xs.length ≤ 100000000) (hJ : Ent J (Rs f8 1 q.1 q.2 xs) := by exact jA) :
    Tr TP 109 [pb b] (Ctx J (mo b q xs i :: H)) (fun _ : Unit => .int .i64 ((v + 65536 * w : Nat) : Int)) (fun _ => True) (fun _ => Ctx J (mo b q xs (i + 4) :: H)) := by
  refine en0 Tryz.func109 rfl rfl rfl (go ?_)
  refine ca (cTwo9 hs hv (by omega) hb hJ) fun _ _ => ?_
  refine go ?_
  refine ca (cTwo9 (i := i + 2) hs2 hw (by omega) hb hJ) fun _ _ => ?_
  refine go ?_
  exact rt () trivial rfl (fun _ h => h)
end
def rp : Nat → List Value
  | 0 => [.bool false, .bool false, .bool false, .bool false, .bool false, .bool false, .bool false, .bool false, .bool false, .bool false, .bool false, .bool false, .bool false, .bool false, .bool false, .bool false,
    .bool false, .bool false, .bool false, .bool false, .bool false, .bool false, .bool false, .bool false, .bool false, .bool false, .bool false, .bool false, .bool false, .bool false, .bool false, .bool false,
    .bool false, .bool false, .bool false, .bool false, .bool false, .bool false, .bool false, .bool false, .bool false, .bool false, .bool false, .bool false, .bool false, .bool false, .bool false, .bool false,
    .bool false, .bool false, .bool false, .bool false, .bool false, .bool false, .bool false, .bool false, .bool false, .bool false, .bool false, .bool false, .bool false, .bool false, .bool false, .bool false]
  | k + 1 => List.append (rp k) (rp k)
theorem rp_eq : ∀ k, rp k = List.replicate (64 * 2 ^ k) (.bool false)
  | 0 => rfl
  | k + 1 => by
    rw [show rp (k + 1) = rp k ++ rp k from rfl, rp_eq k, List.replicate_append_replicate]
    congr 1
    rw [Nat.pow_succ]; omega
theorem z347 : Tryz.t347.zero = some (.agg ⟨rp 10⟩) := by kernel_rfl
/-- Marks. -/
theorem mk_ex (g : Nat → Bool) (n : Nat) : ∃ l, l = (List.range n).map fun i => Value.bool (g i) := ⟨_, rfl⟩
def mkL (g : Nat → Bool) (n : Nat) : List Value := Classical.choose (mk_ex g n)
theorem mkL_def (g : Nat → Bool) (n : Nat) : mkL g n = (List.range n).map fun i => Value.bool (g i) := Classical.choose_spec (mk_ex g n)
theorem mkL_len {g : Nat → Bool} {n : Nat} : (mkL g n).length = n := by simp [mkL_def]
theorem mkL_0 : mkL (fun _ => false) 65536 = rp 10 := by
  rw [mkL_def, rp_eq, List.map_const', List.length_range]
theorem mkL_at {g : Nat → Bool} {n i : Nat} (h : i < n) : (mkL g n)[i]? = some (.bool (g i)) := by simp [mkL_def, h]
theorem mkL_set {g : Nat → Bool} {n i : Nat} : (mkL g n).set i (.bool true) = mkL (fun j => decide (j = i) || g j) n := by
  rw [mkL_def, mkL_def]
  apply List.ext_getElem
  · simp
  · intro j h1 h2
    rw [List.getElem_set]
    simp only [List.getElem_map, List.getElem_range]
    split
    · next h => subst h; simp
    · next h => simp [show ¬ j = i from fun e => h e.symm]
theorem mkL_ld {g : Nat → Bool} {n i : Nat} (h : i < n) : ldC TP 4 (mkL g n) i = some (.bool (g i)) := by
  show nthV (mkL g n) i = _
  rw [nthV_eq, mkL_at h]
theorem spl_one : ∀ {l : List Value} {off : Nat} {v : Value}, off < l.length → spl l off [v] = some (l.set off v)
  | [], _, _, h => absurd h (Nat.not_lt_zero _)
  | x :: l, 0, v, _ => by cases l <;> simp [spl]
  | x :: l, off + 1, v, h => by
    have := spl_one (l := l) (off := off) (v := v) (by simpa using h)
    simp only [spl, this, List.set_cons_succ]
theorem mkL_st {g : Nat → Bool} {n i : Nat} (h : i < n) : stC TP 4 (mkL g n) i (.bool true) = some (mkL (fun j => decide (j = i) || g j) n) := by
  rw [← mkL_set]
  exact spl_one (by rw [mkL_len]; exact h)
theorem bld347 : bld TP 347 [] = some (.agg ⟨mkL (fun _ => false) 65536⟩) := by
  have hi : TP.info? 347 = some Tryz.t347 := Tryz.type347
  unfold bld
  rw [hi, Tryz.underlying347]
  dsimp only
  rw [z347, mkL_0]
  have hj : TP.info? 4 = some Tryz.t4 := Tryz.type4
  rw [hj]
  rfl
section
variable {P : Program} {o : Oper} {L : Env}
/-- A struct or an array without parts. -/
theorem qBd0 {t : TypeId} {v : Value} (ho : o.op = .build t #[]) (h : bld P t [] = some v) : OQ P o L none v :=
  ⟨by rw [ho]; rfl, fun ρ w hρ _ => by
    have h1 : (Instr.build t #[]).run P w = .ok v w := bld_sound h w
    simp [execOp, ho, h1]⟩
end
section
variable {J : List (World → Prop)} {H : List RC} {ad : Option Addr} {cap : Nat} {r : List (Nat × Nat)}
set_option maxHeartbeats 4000000 in
theorem cMarks (hr : r.length ≤ 1000) (hb : ∀ i (h : i < r.length), r[i].1 + r[i].2 < 65536) (hJ : Ent J (Rs fR 2 ad cap r)) :
    Tr TP 186 [.slice ad r.length cap] (Ctx J H) (fun y : Nat × (Nat → Bool) => pb y.1) (fun y => ∀ j, y.2 j = true ↔ ∃ m, ∃ h : m < r.length, r[m].1 ≤ j ∧ j ≤ r[m].1 + r[m].2) (fun y => Ctx J (pt y.1 347 (mkL y.2 65536) :: H)) := by
  refine en0 Tryz.func186 rfl rfl rfl (addJ hJ ?_)
  refine adv_sound 6 [] rfl ?_
  refine hA rfl rfl rfl ((qBd0 rfl bld347).os (fun _ _ => trivial)) rfl ?_
  refine hx rfl rfl rfl (oBx rfl rfl rfl) fun b => ?_
  refine go ?_
  refine lp (X := Nat × (Nat → Bool)) (fun y => y.1 ≤ r.length ∧ ∀ j, y.2 j = true ↔ ∃ m, ∃ h : m < r.length, m < y.1 ∧ r[m].1 ≤ j ∧ j ≤ r[m].1 + r[m].2)
    (fun (i, g) => [(0, .slice ad r.length cap), (3, .pointer (some ⟨b, 0, none⟩)), (4, .int .i64 i)]) (fun (i, g) => Ctx (Rs fR 2 ad cap r :: J) (pt b 347 (mkL g 65536) :: H)) (fun y => r.length - y.1) (0, fun _ => false)
    ⟨Nat.zero_le _, fun j => ⟨(fun h => nomatch h), fun ⟨m, _, h, _⟩ => absurd h (Nat.not_lt_zero _)⟩⟩ rfl (fun _ h => h) fun (i, g) ⟨hi, hg⟩ => ?_
  dsimp only at hi hg
  refine go ?_
  refine ⟨fun h1 => ?_, fun h1 => ?_⟩
  · have hi1 : i < r.length := by omega
    have hbi := hb i hi1
    refine go ?_
    refine lp (X := Nat × (Nat → Bool)) (fun y => y.1 ≤ r[i].2 + 1 ∧ ∀ j, y.2 j = true ↔ (∃ m, ∃ h : m < r.length, m < i ∧ r[m].1 ≤ j ∧ j ≤ r[m].1 + r[m].2) ∨ (r[i].1 ≤ j ∧ j < r[i].1 + y.1))
      (fun (k, g) => [(0, .slice ad r.length cap), (3, .pointer (some ⟨b, 0, none⟩)), (4, .int .i64 i), (5, .int .i64 k)]) (fun (k, g) => Ctx (Rs fR 2 ad cap r :: J) (pt b 347 (mkL g 65536) :: H)) (fun y => r[i].2 + 1 - y.1) (0, g)
      ⟨Nat.zero_le _, fun j => (hg j).trans ⟨.inl, fun h => h.elim id fun h => absurd h (by dsimp only; omega)⟩⟩ rfl (fun _ h => h) fun (k, g2) ⟨hk, hg2⟩ => ?_
    dsimp only at hk hg2
    refine go ?_
    refine ⟨fun h2 => ?_, fun h2 => ?_⟩
    · refine go ?_
      have hv : r[i].1 + k < 65536 := by omega
      rw [show ((r[i].1 : Int) + (k : Int)) = ((r[i].1 + k : Nat) : Int) by omega]
      refine kq (fun o => match o.dst with | some d => Nat.beq d 34 | none => false) rfl (qN (qIxA (i := r[i].1 + k) (off' := r[i].1 + k) rfl rfl rfl rfl hv (by omega)) (fun _ _ => trivial) rfl rfl rfl (dA rfl ?_))
      refine kq (fun o => match o.dst with | some d => false | none => true) rfl (qC0 (oSt (k := 0) rfl rfl rfl rfl (mkL_st hv) rfl rfl rfl) rfl rfl rfl rfl af ?_)
      refine go ?_
      refine en (k + 1, fun j => decide (j = r[i].1 + k) || g2 j) ⟨⟨by dsimp only; omega, fun j => ?_⟩, by dsimp only; omega⟩ (by simp) (fun _ h => h)
      dsimp only
      rw [Bool.or_eq_true, hg2 j, decide_eq_true_iff]
      constructor
      · rintro (h | h | h)
        · exact .inr ⟨by omega, by omega⟩
        · exact .inl h
        · exact .inr ⟨h.1, by omega⟩
      · rintro (h | h)
        · exact .inr (.inl h)
        · by_cases hj : j = r[i].1 + k
          · exact .inl hj
          · exact .inr (.inr ⟨h.1, by omega⟩)
    · refine go ?_
      obtain rfl : k = r[i].2 + 1 := by omega
      refine en (i + 1, g2) ⟨⟨by dsimp only; omega, fun j => (hg2 j).trans ⟨fun h => ?_, fun h => ?_⟩⟩, by dsimp only; omega⟩ (by simp) (fun _ h => h)
      · rcases h with ⟨m, h3, h4, h5⟩ | h
        · exact ⟨m, h3, by dsimp only; omega, h5⟩
        · exact ⟨i, hi1, by dsimp only; omega, by omega, by omega⟩
      · obtain ⟨m, h3, h4, h5⟩ := h
        dsimp only at h4
        rcases Nat.lt_or_eq_of_le (Nat.le_of_lt_succ h4) with h6 | h6
        · exact .inl ⟨m, h3, h6, h5⟩
        · subst h6; exact .inr ⟨h5.1, by omega⟩
  · refine go ?_
    refine rt (b, g) (fun j => (hg j).trans ⟨fun ⟨m, h3, _, h5⟩ => ⟨m, h3, h5⟩, fun ⟨m, h3, h5⟩ => ⟨m, h3, by omega, h5⟩⟩) rfl (fun _ h => h.ent fun _ j => j.2)
set_option maxHeartbeats 4000000 in
theorem cList4 {b N : Nat} {g : Nat → Bool} (hN : N = 65536) (hg : (fl g N).length ≤ 1000) :
    Tr TP 187 [pb b] (Ctx J (pt b 347 (mkL g N) :: H)) (fun q : Q2 => .slice q.1 (fl g N).length q.2) (fun _ => True) (fun q => Ctx J (sl fh 1 152 q.1 q.2 (fl g N) :: pt b 347 (mkL g N) :: H)) := by
  refine en0 Tryz.func187 rfl rfl rfl (go ?_)
  refine pre (fun w h => Ctx.nl (f := fh) (sz := 1) (e := 152) h) ?_
  refine lp (X := Nat × Q2) (fun y => y.1 ≤ N) (fun (i, q) => [(0, pb b), (3, .slice q.1 (fl g i).length q.2), (4, .int .i64 i)]) (fun (i, q) => Ctx J (sl fh 1 152 q.1 q.2 (fl g i) :: pt b 347 (mkL g N) :: H)) (fun y => N - y.1) (0, (none, 0)) (Nat.zero_le _) rfl (fun _ h => h) fun (i, q) hi => ?_
  dsimp only at hi
  have hli := fl_lenle (g := g) hi
  refine adv_sound 400 [] rfl ?_
  refine brD rfl ⟨fun h1 => ?_, fun h1 => ?_⟩
  · have hi1 : i < N := by omega
    have hi6 : i < 65536 := by omega
    clear hN
    refine go ?_
    refine hA rfl rfl rfl ((qIxA (i := i) (off' := i) rfl rfl rfl rfl hi6 (by omega)).os (fun _ _ => trivial)) rfl ?_
    refine hA rfl rfl rfl ((qLd rfl rfl (mkL_ld hi1)).os (fun _ h => h.at (k := 1) rfl)) rfl ?_
    cases e : g i with
    | true =>
      refine go ?_
      intro bb q2
      refine en (i + 1, q2) ⟨by dsimp only; omega, by dsimp only; omega⟩ (by dsimp only; rw [fl_t e]; simp) (fun w h => by dsimp only; rw [fl_t e]; exact h)
    | false =>
      refine go ?_
      exact en (i + 1, q) ⟨by dsimp only; omega, by dsimp only; omega⟩ (by dsimp only; rw [fl_f e]; simp) (fun w h => by dsimp only; rw [fl_f e]; exact h)
  · obtain rfl : i = N := by omega
    refine go ?_
    exact rt q trivial rfl (fun _ h => h)
end
section
variable {P : Program} {C : World → Prop} {L : Env} {s : List KI}
theorem RS.sound4 {fn : Func} {tmps : Array Value} {w : World} {a b c d : Value} {rs : List ResultVar} (h : RS P tmps w rs [a, b, c, d]) (e : fn.results = rs.toArray) : (results fn tmps).run P w = .ok (.tuple #[a, b, c, d]) w := by
  rw [results_eq, e]
  rcases h with _ | ⟨h1, h⟩
  rcases h with _ | ⟨h2, h⟩
  rcases h with _ | ⟨h3, h⟩
  rcases h with _ | ⟨h4, h⟩
  rcases h with _ | _
  simp [h1, h2, h3, h4]
/-- Four results. -/
theorem rt4 {n : Nat} {fn : Func} {X : Type} {v : X → Value} {p : X → Prop} {C' : X → World → Prop} {a b c d : Value} {t u y z : Nat} (x : X) (hp : p x) (hC : ∀ w, C w → C' x w) (hr : fn.results.toList = [.tmp t, .tmp u, .tmp y, .tmp z] := by rfl)
    (h1 : look L t = some a := by rfl) (h2 : look L u = some b := by rfl) (h3 : look L y = some c := by rfl) (h4 : look L z = some d := by rfl) (hv : .tuple #[a, b, c, d] = v x := by rfl) : HK P (n, []) (.code .ret :: s) L C (bodyPost P fn fun e w' => ∃ x, e = .returned (v x) ∧ p x ∧ C' x w') := by
  have h : RL P C L fn.results.toList [a, b, c, d] := by rw [hr]; exact .tmp h1 (.tmp h2 (.tmp h3 (.tmp h4 .nil)))
  intro ac w ha hc
  refine wp_ret ?_
  have key : ∀ s : List KI, Kw P s (bodyPost P fn fun e w' => ∃ x, e = .returned (v x) ∧ p x ∧ C' x w') .ret ac w := by
    intro s
    induction s with
    | nil => exact ⟨ha.defs, v x, hv ▸ (h.step ha hc).sound4 (by simp), x, rfl, hp, hC w hc⟩
    | cons k s ih => cases k <;> exact ih
  exact key s
end
end
end Go.Proofs.YtimemehaccgmmaaGreatDoor
