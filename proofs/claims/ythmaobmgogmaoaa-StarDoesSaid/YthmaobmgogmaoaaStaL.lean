/-
  Star-trees: Of, walked.
-/
import Derived.Test.YthmaobmgogmaoaaStaH
import Derived.Test.YthmaobmgogmaoaaStaJ
import Derived.Test.YthmaobmgogmaoaaStaK
import Derived.Test.YthmaobmgogmaoaaRegionT
namespace Go.Proofs.Ythmaobmgogmaoaa
open Go.RowKit Go.Shelf
set_option linter.unusedSimpArgs false
set_option linter.unusedVariables false
set_option maxRecDepth 100000

/-- Nothing to put together. -/
theorem stTog0_any (a0 : Option Addr) (c0 : Nat) (w : World) : Calls Try.prog 36 #[.slice a0 0 c0] w fun e w' => e = .returned (.slice none 0 0) ∧ Kp [] w w' := by
  go_enter Try.func36, Try.ntmps36
  go_wp2_with fail
  refine (rcSortSt0_any a0 c0 _ w).mono ?_
  rintro e w5 ⟨⟨v, rfl⟩, rfl⟩
  go_wp2_with fail
  go_loopw [2, 13] (fun vo vi wr => vo = .slice none 0 0 ∧ vi = .int .i64 0 ∧ wr = w5) (fun _ _ _ => 0)
  case atStart => exact ⟨rfl, rfl, rfl⟩
  case round =>
    obtain ⟨rfl, rfl, rfl⟩ := hrel
    go_wp2_with fail
    go_ret
    exact ⟨rfl, Kp.refl _ _⟩
theorem mayS_ok {S M : List (List Int)} {many : List Int} {leaf : Int} (h : mayS S many M leaf = true) : 1 ≤ S.length ∧ S.length ≤ 8 ∧ many.length = S.length ∧ M.length ≤ 256 ∧ 1 ≤ leaf ∧ leaf ≤ 1000000 ∧ (∀ j, j < S.length → (rowP S j).length = (rowP S 0).length ∧ 0 ≤ nth many j ∧ nth many j ≤ 16777216 ∧ ∀ x ∈ rowP S j, 0 ≤ x ∧ x < nth many j) ∧ ∀ l ∈ M, l.length = (rowP S 0).length := by
  unfold mayS headOk at h
  rw [Bool.and_eq_true, decide_eq_true_eq, Bool.and_eq_true, List.all_eq_true] at h
  obtain ⟨⟨h1, h2, h3, h4, h5, h6⟩, h7, h8⟩ := h
  refine ⟨h1, h2, h3, h4, h5, h6, fun j hj => ?_, fun l hl => ?_⟩
  · have := h7 j (by simpa using hj)
    unfold colOk at this
    simp only [Bool.and_eq_true, decide_eq_true_eq, Bool.not_eq_true', List.any_eq_false] at this
    obtain ⟨g1, g2, g3, g4⟩ := this
    refine ⟨g3, g1, g2, fun x hx => ?_⟩
    have := g4 x hx
    simp [oddI] at this
    exact this
  · rw [Bool.not_eq_true', List.any_eq_false] at h8
    have := h8 l hl
    simpa using this
theorem ownS_high {α : Type} {f : α → List Value} {sz : Nat} {w : World} {base base' : Nat} {e : TypeId} {g cap : Nat} {l : List α} (h : OwnS f sz w base e (some ⟨g, 0, none⟩) cap l) (hg : base' ≤ g) : OwnS f sz w base' e (some ⟨g, 0, none⟩) cap l := by
  rcases h with h | ⟨g2, cur, h1, -, h3⟩
  · exact .inl h
  · cases h1; exact .inr ⟨g, cur, rfl, hg, h3⟩
/-- A record whose first ids are set. -/
def recJ (S : List (List Int)) (i j : Nat) (sa : Option Addr) (sn sc : Nat) (ms : List S3) : Rc := ⟨fun t => if t < j then nth (rowP S t) i else 0, 1, sa, sn, sc, ms⟩
theorem recJ_step (S : List (List Int)) (i j : Nat) (hj : j < 8) (v : Int) (hv : v = nth (rowP S j) i) : (recJ S i j none 0 0 []).cells.toArray.setIfInBounds j (.int .i64 v) = (recJ S i (j + 1) none 0 0 []).cells.toArray := by
  subst hv
  have : j = 0 ∨ j = 1 ∨ j = 2 ∨ j = 3 ∨ j = 4 ∨ j = 5 ∨ j = 6 ∨ j = 7 := by omega
  rcases this with rfl | rfl | rfl | rfl | rfl | rfl | rfl | rfl <;> simp [Rc.cells, recJ]
theorem recJ_pr (S : List (List Int)) (i k : Nat) (hk : k = S.length) (sa : Option Addr) (sn sc : Nat) (ms : List S3) : pr k (recJ S i k sa sn sc ms) = ⟨S.map (fun l => nth l i), 1, ms⟩ := by
  unfold pr recJ
  simp only
  congr 1
  refine List.ext_getElem (by simp [hk]) fun t h1 h2 => ?_
  simp only [List.length_map, List.length_range] at h1
  rw [List.getElem_map, List.getElem_range, if_pos h1, List.getElem_map]
  simp [rowP, show t < S.length by omega]
def s3of (i : Nat) (l : List Int) : S3 := ⟨nth l i, nth l i, nth l i⟩
theorem recJ_arr (S : List (List Int)) (i k : Nat) (sa : Option Addr) (sn sc : Nat) (ms : List S3) (f : Nat → Int) (hf : f = fun t => if t < k then nth (rowP S t) i else 0) : (recJ S i k sa sn sc ms).cells.toArray = #[.int .i64 (f 0), .int .i64 (f 1), .int .i64 (f 2), .int .i64 (f 3), .int .i64 (f 4), .int .i64 (f 5), .int .i64 (f 6), .int .i64 (f 7), .int .i64 1, .slice sa sn sc] := by
  subst hf; rfl
/-- What rows there are so far. -/
structure RowsI (k mt B : Nat) (S M : List (List Int)) (i : Nat) (w1 : World) (ado : Option Addr) (capo : Nat) (RL : List Rc) (w : World) : Prop where
  own : OwnS Rc.cells 10 w B 82 ado capo RL
  len : RL.length = i
  is : RL.map (pr k) = (List.range i).map (rowPR S M)
  good : ∀ x ∈ RL, Good k mt B w x
  kp : Kp [] w1 w
theorem RowsI.keep0 {k mt B : Nat} {S M : List (List Int)} {i : Nat} {w1 : World} {ado : Option Addr} {capo : Nat} {RL : List Rc} {w w' : World} (h : RowsI k mt B S M i w1 ado capo RL w) (hk : Kp [] w w') : RowsI k mt B S M i w1 ado capo RL w' :=
  ⟨h.own.keep0 hk, h.len, h.is, fun x hx => (h.good x hx).keep0 hk, h.kp.tr hk⟩
theorem RowsI.snoc {k mt B : Nat} {S M : List (List Int)} {i : Nat} {w1 : World} {ado ado' : Option Addr} {capo capo' : Nat} {RL : List Rc} {w w' : World} {y : Rc} (h : RowsI k mt B S M i w1 ado capo RL w) (hb : w1.heap.size ≤ B) (hg : Good k mt B w y) (hy : pr k y = rowPR S M i)
    (ho : OwnS Rc.cells 10 w' B 82 ado' capo' (RL ++ [y])) (hk : Kp (ob ado capo) w w') : RowsI k mt B S M (i + 1) w1 ado' capo' (RL ++ [y]) w' := by
  refine ⟨ho, by rw [List.length_append, h.len]; rfl, by rw [List.map_append, h.is, List.range_succ, List.map_append]; simp [hy], fun x hx => ?_, h.kp.trans hk (by simp) (fun b hb2 => .inr (Nat.le_trans hb (h.own.ob_ge b hb2).1))⟩
  have hgx : Good k mt B w x := by
    rcases List.mem_append.1 hx with hx | hx
    · exact h.good x hx
    · simp at hx; subst hx; exact hg
  exact hgx.keep hk (ownApart hgx.2.2.2 h.own (fun e => tRec_tSum e.symm))
end Go.Proofs.Ythmaobmgogmaoaa
