/-
  Parts of the walks and their plain laws (B1 B2 B3 B4 B5 B6). No condition.
-/
import Derived.Test.YtimemehaccgmmaaGreatDoorM25
import Derived.Test.YtimemehaccgmmaaGreatDoorM26
import Derived.Test.YtimemehaccgmmaaGreatDoorM21
namespace Go.Proofs.YtimemehaccgmmaaGreatDoor
open Go.RowKit
set_option maxRecDepth 100000
set_option linter.unusedVariables false
set_option linter.unusedSimpArgs false
noncomputable section
/-- A column's values' kind. -/
def kdC (c : Col) : Int := if c.k = 2 then 2 else 1
def kdOk (l : List Col) (vs : List Vl) : Prop := ∀ (i : Nat) (v : Vl) (c : Col), vs[i]? = some v → l[i]? = some c → v.k = kdC c
/-- Rows that may be. -/
def okT (l : List Col) (R : List (List Vl)) : Prop := mayL l = true ∧ ∀ r ∈ R, (r.length = l.length ∧ ∀ v ∈ r, mayV v = true) ∧ kdOk l r
section
variable {J : List (World → Prop)} {H : List RC} {ad ad2 : Option Addr} {cap cap2 : Nat} {l : List Col} {rows : List Rw} {c : Col}
theorem cKindT : Tr TP 124 [aC c] (Ctx J H) (fun _ : Unit => .int .u8 (kdC c)) (fun _ => True) (fun _ => Ctx J H) := by
  refine en0 Tryz.func124 rfl rfl rfl (go ?_)
  intro b
  refine br (fun h => ?_) fun h => ?_
  · rw [show (2 : Int) = kdC c from (if_pos h).symm]
    exact rt () trivial rfl (fun _ h => h.rest)
  · rw [show (1 : Int) = kdC c from (if_neg h).symm]
    exact rt () trivial rfl (fun _ h => h.rest)
set_option maxHeartbeats 8000000 in
theorem cTMay (hb : rows.length ≤ 60) (hb2 : ∀ r ∈ rows, r.2.length ≤ 1000) (hbl : l.length ≤ 1000) (hn : ∀ c ∈ l, c.s.size ≤ 9223372036854775807) (hJ : Ent J (Rs fC 2 ad cap l) := by exact jA) (hJ2 : Ent J (Rs fRw 1 ad2 cap2 rows) := by exact jA) (hJ3 : Ent J (AllR fV 3 rows) := by exact jA) :
    Tr TP 59 [.slice ad l.length cap, .slice ad2 rows.length cap2] (Ctx J H) (fun e : Int => .int .i64 e) (fun e => e = 0 ↔ okT l (rows.map (·.2))) (fun _ => Ctx J H) := by
  refine en0 Tryz.func59 rfl rfl rfl (addJ hJ (addJ (fun w j => hJ2 w j.2) (addJ (fun w j => hJ3 w j.2.2) (go ?_))))
  refine ca (cMayL (hn := hn)) fun _ _ => ?_
  cases hm : mayL l with
  | false =>
    refine go ?_
    exact rt 2 ⟨fun h => absurd h (by decide), fun h => by have := h.1; rw [hm] at this; cases this⟩ rfl (fun _ h => h.ent fun _ j => j.2.2.2)
  | true =>
  refine go ?_
  refine lp (X := Nat × Bool) (fun x => x.1 ≤ rows.length ∧ (∀ r ∈ rows.take x.1, r.2.length = l.length ∧ ∀ v ∈ r.2, mayV v = true) ∧ (x.2 = false ↔ ∀ r ∈ rows.take x.1, kdOk l r.2)) (fun (k, o) => [(0, .slice ad l.length cap), (1, .slice ad2 rows.length cap2), (5, .bool o), (13, .slice ad2 rows.length cap2), (14, .int .i64 rows.length), (15, .int .i64 k)])
    (fun _ => Ctx (AllR fV 3 rows :: Rs fRw 1 ad2 cap2 rows :: Rs fC 2 ad cap l :: J) H) (fun x => rows.length - x.1) (0, false) (by simp) rfl (fun _ h => h) fun ⟨k, o⟩ ⟨hk, h1, h2⟩ => ?_
  dsimp only at hk h1 h2
  refine go ?_
  refine ⟨fun h3 => ?_, fun h3 => ?_⟩
  · have hk1 : k < rows.length := by omega
    have hmr : rows[k].2 ∈ rows.map (·.2) := List.mem_map.2 ⟨_, List.getElem_mem hk1, rfl⟩
    have hrl := hb2 _ (List.getElem_mem hk1)
    have eT : rows.take (k + 1) = rows.take k ++ [rows[k]] := (List.take_append_getElem hk1).symm
    refine go ?_
    refine ⟨fun h4 => ?_, fun h4 => ?_⟩
    · refine go ?_
      exact rt 2 ⟨fun h => absurd h (by decide), fun h => absurd (h.2 _ hmr).1.1 (by omega)⟩ rfl (fun _ h => h.ent fun _ j => j.2.2.2)
    · have hl4 : rows[k].2.length = l.length := by omega
      refine addJ (R := Rs fV 3 rows[k].1.1 rows[k].1.2 rows[k].2) (fun w j => j.1.at hk1) ?_
      refine go ?_
      refine lp (X := Nat × Bool) (fun x => x.1 ≤ rows[k].2.length ∧ (∀ v ∈ rows[k].2.take x.1, mayV v = true) ∧ (x.2 = false ↔ o = false ∧ ∀ i v c, i < x.1 → rows[k].2[i]? = some v → l[i]? = some c → v.k = kdC c)) (fun (i, o') => [(0, .slice ad l.length cap), (1, .slice ad2 rows.length cap2), (5, .bool o'), (13, .slice ad2 rows.length cap2), (14, .int .i64 rows.length), (15, .int .i64 k), (24, .slice rows[k].1.1 rows[k].2.length rows[k].1.2), (25, .int .i64 rows[k].2.length), (26, .int .i64 i)])
        (fun _ => Ctx (Rs fV 3 rows[k].1.1 rows[k].1.2 rows[k].2 :: AllR fV 3 rows :: Rs fRw 1 ad2 cap2 rows :: Rs fC 2 ad cap l :: J) H) (fun x => rows[k].2.length - x.1) (0, o) (by simp) rfl (fun _ h => h) fun ⟨i, o'⟩ ⟨hi, g1, g2⟩ => ?_
      dsimp only at hi g1 g2
      generalize hr : rows[k] = r at hmr hrl eT hl4 hi g1 g2
      refine go ?_
      refine ⟨fun h5 => ?_, fun h5 => ?_⟩
      · have hi1 : i < r.2.length := by omega
        have hmv : r.2[i] ∈ r.2 := List.getElem_mem hi1
        have eV : r.2.take (i + 1) = r.2.take i ++ [r.2[i]] := (List.take_append_getElem hi1).symm
        have hil : i < l.length := by omega
        refine go ?_
        intro b
        refine ca cMayV fun _ _ => ?_
        cases hv : mayV r.2[i] with
        | false =>
          refine go ?_
          exact rt 2 ⟨fun h => absurd h (by decide), fun h => by have := (h.2 _ hmr).1.2 _ hmv; rw [hv] at this; cases this⟩ rfl (fun _ h => h.rest.ent fun _ j => j.2.2.2.2)
        | true =>
        have hg1 : ∀ v ∈ r.2.take (i + 1), mayV v = true := fun v h => by
          rw [eV] at h
          rcases List.mem_append.1 h with h | h
          · exact g1 v h
          · rw [List.mem_singleton.1 h]; exact hv
        cases o' with
        | true =>
          refine go ?_
          exact en (i + 1, true) ⟨⟨by dsimp only; omega, hg1, by
            constructor
            · intro h; cases h
            · rintro ⟨e1, e2⟩; exact g2.2 ⟨e1, fun j v c hj => e2 j v c (by dsimp only; omega)⟩⟩, by dsimp only; omega⟩ rfl (fun _ h => h.rest)
        | false =>
          refine go ?_
          refine cg (cKindT (c := l[i])) fun _ _ => ?_
          refine en (i + 1, decide (r.2[i].k ≠ kdC l[i])) ⟨⟨by dsimp only; omega, hg1, ?_⟩, by dsimp only; omega⟩ rfl (fun _ h => h.rest)
          dsimp only
          rw [decide_eq_false_iff_not, Decidable.not_not]
          constructor
          · intro e
            obtain ⟨e1, e2⟩ := g2.1 rfl
            refine ⟨e1, fun j v c hj hv' hc' => ?_⟩
            rcases Nat.lt_or_eq_of_le (Nat.le_of_lt_succ hj) with h6 | h6
            · exact e2 j v c h6 hv' hc'
            · subst h6
              rw [← at? hi1 hv', ← at? hil hc']; exact e
          · rintro ⟨-, e2⟩
            exact e2 i _ _ (by omega) (List.getElem?_eq_getElem hi1) (List.getElem?_eq_getElem hil)
      · obtain e : i = r.2.length := by omega
        subst e
        rw [List.take_length] at g1
        refine go ?_
        refine en (k + 1, o') ⟨⟨by dsimp only; omega, fun r' h => ?_, ?_⟩, by dsimp only; omega⟩ rfl (fun _ h => h.ent fun _ j => j.2)
        · rw [eT] at h
          rcases List.mem_append.1 h with h | h
          · exact h1 r' h
          · rw [List.mem_singleton.1 h]; exact ⟨hl4, g1⟩
        · dsimp only
          rw [g2, h2, eT]
          constructor
          · rintro ⟨e1, e2⟩ r' h
            rcases List.mem_append.1 h with h | h
            · exact e1 r' h
            · rw [List.mem_singleton.1 h]
              exact fun i v c hv' hc' => e2 i v c (by
                by_cases hlt : i < r.2.length
                · exact hlt
                · rw [List.getElem?_eq_none (by omega)] at hv'; cases hv') hv' hc'
          · intro h
            exact ⟨fun r' hr' => h r' (List.mem_append_left _ hr'), fun i v c _ hv' hc' => h r (by simp) i v c hv' hc'⟩
  · obtain rfl : k = rows.length := by omega
    rw [List.take_length] at h1 h2
    refine go ?_
    have key : o = false ↔ okT l (rows.map (·.2)) := by
      rw [h2]
      constructor
      · intro h
        exact ⟨hm, fun r hr => by obtain ⟨r', hr', rfl⟩ := List.mem_map.1 hr; exact ⟨h1 r' hr', h r' hr'⟩⟩
      · intro h r hr
        exact (h.2 _ (List.mem_map.2 ⟨r, hr, rfl⟩)).2
    refine ⟨fun ho => ?_, fun ho => ?_⟩
    · refine go ?_
      exact rt 9 ⟨fun h => absurd h (by decide), fun h => by rw [key.2 h] at ho; cases ho⟩ rfl (fun _ h => h.ent fun _ j => j.2.2.2)
    · refine go ?_
      exact rt 0 ⟨fun _ => key.1 ho, fun _ => rfl⟩ rfl (fun _ h => h.ent fun _ j => j.2.2.2)
end
end
end Go.Proofs.YtimemehaccgmmaaGreatDoor
namespace Go.Proofs.YtimemehaccgmmaaGreatDoor
open Go.RowKit
set_option maxRecDepth 100000
set_option linter.unusedVariables false
set_option linter.unusedSimpArgs false
noncomputable section
def zV : Vl := ⟨0, 0, ⟨#[]⟩⟩
abbrev nR : Rw := ((none, 0), [])
abbrev yR (c : Nat) (vs : List Vl) : Rw := ((some ⟨c, 0, none⟩, vs.length), vs)
section
variable {J : List (World → Prop)} {H : List RC} {ad ad2 : Option Addr} {cap cap2 : Nat} {l : List Col} {rows : List Rw} {c : Col}
set_option maxHeartbeats 8000000 in
theorem cTCopy (hb : rows.length ≤ 1000) (hb2 : ∀ r ∈ rows, r.2.length ≤ 1000) (hJ2 : Ent J (Rs fRw 1 ad cap rows) := by exact jA) (hJ3 : Ent J (AllR fV 3 rows) := by exact jA) :
    Tr TP 60 [.slice ad rows.length cap] (Ctx J H) (fun x : Q2 × List Rw => .slice x.1.1 rows.length x.1.2) (fun x => x.2.map (·.2) = rows.map (·.2)) (fun x => Ctx (AllR fV 3 x.2 :: J) (sl fRw 1 61 x.1.1 x.1.2 x.2 :: H)) := by
  refine en0 Tryz.func60 rfl rfl rfl (addJ hJ2 (addJ (fun w j => hJ3 w j.2) (go ?_)))
  refine mk fRw nR fun b => ?_
  refine go ?_
  refine lp (X := Nat × List Rw) (fun x => x.1 ≤ rows.length ∧ x.2.map (·.2) = (rows.take x.1).map (·.2)) (fun (k, X) => [(0, .slice ad rows.length cap), (3, .slice (some ⟨b, 0, none⟩) rows.length rows.length), (9, .int .i64 rows.length), (10, .int .i64 k)])
    (fun (k, X) => Ctx (AllR fV 3 X :: AllR fV 3 rows :: Rs fRw 1 ad cap rows :: J) (sl fRw 1 61 (some ⟨b, 0, none⟩) rows.length (X ++ List.replicate (rows.length - k) nR) :: H)) (fun x => rows.length - x.1) (0, []) (by simp) rfl (fun _ h => h.ent fun _ j => ⟨(fun _ h => nomatch h), j⟩) fun ⟨k, X⟩ ⟨hk, hX⟩ => ?_
  dsimp only at hk hX
  have hXl : X.length = k := by have := congrArg List.length hX; simp at this; omega
  have hml : (X ++ List.replicate (rows.length - k) nR).length = rows.length := by simp; omega
  refine go ?_
  refine ⟨fun h1 => ?_, fun h1 => ?_⟩
  · have hk1 : k < rows.length := by omega
    have hrl := hb2 _ (List.getElem_mem hk1)
    have eT : rows.take (k + 1) = rows.take k ++ [rows[k]] := (List.take_append_getElem hk1).symm
    refine go ?_
    refine mk fV zV fun c => ?_
    refine go ?_
    refine hA0 rfl rfl (oSe0 (k := 1) (i := k) (y := (yR c rows[k].2)) rfl rfl rfl rfl (by omega) rfl rfl rfl rfl) rfl ?_
    have e1 : (X ++ List.replicate (rows.length - k) nR).set k (yR c rows[k].2) = X ++ [(yR c rows[k].2)] ++ List.replicate (rows.length - (k + 1)) nR := by
      rw [List.set_append_right _ _ (by omega), show rows.length - k = (rows.length - (k + 1)) + 1 by omega, List.replicate_succ, show k - X.length = 0 by omega, List.set_cons_zero]; simp
    have hml2 : (X ++ [(yR c rows[k].2)] ++ List.replicate (rows.length - (k + 1)) nR).length = rows.length := by simp; omega
    have g0 : ∀ (vs : List Vl) (h : k < (X ++ [yR c vs] ++ List.replicate (rows.length - (k + 1)) nR).length), (X ++ [yR c vs] ++ List.replicate (rows.length - (k + 1)) nR)[k]'h = yR c vs := fun vs h => g_at (Q := X) (Z := List.replicate (rows.length - (k + 1)) nR) (by rw [List.append_assoc]; rfl) hXl h
    rw [e1]
    refine addJ (R := Rs fV 3 rows[k].1.1 rows[k].1.2 rows[k].2) (fun w j => j.2.1.at hk1) ?_
    refine go ?_
    rw [g0]
    dsimp only
    refine kq (kB 0) rfl (qX (oCp (k := 0) (f := fV) (xs := List.replicate rows[k].2.length zV) (ys := rows[k].2) rfl rfl rfl rfl je0 (by simp) rfl (by simp) rfl rfl rfl) rfl rfl rfl rfl af fun _ => dA rfl ?_)
    refine go ?_
    refine fz ?_
    exact en (k + 1, X ++ [yR c rows[k].2]) ⟨⟨by dsimp only; omega, by rw [eT, List.map_append, List.map_append, ← hX]; rfl⟩, by dsimp only; omega⟩ rfl (fun _ h => h.ent fun _ j => ⟨j.2.2.1.snoc j.1, j.2.2.2⟩)
  · obtain rfl : k = rows.length := by omega
    refine go ?_
    rw [List.take_length] at hX
    dsimp only
    rw [Nat.sub_self, List.replicate_zero, List.append_nil]
    exact rt ((some ⟨b, 0, none⟩, rows.length), X) hX rfl (fun _ h => h.ent fun _ j => ⟨j.1, j.2.2.2⟩)
end
end
end Go.Proofs.YtimemehaccgmmaaGreatDoor
namespace Go.Proofs.YtimemehaccgmmaaGreatDoor
open Go.RowKit
set_option maxRecDepth 100000
set_option linter.unusedVariables false
set_option linter.unusedSimpArgs false
noncomputable section
def atV (s : Nat) (r : List Vl) : Vl := (r[s]?).getD zV
def colV (R : List (List Vl)) (p : Nat) : List Vl := R.map (atV p)
/-- Rows by a column. -/
def ltL (s : Nat) (x y : List Vl) : Bool := decide (cmpV (atV s x) (atV s y) < 0)
theorem ltL_swo (s : Nat) : Swo (ltL s) := ⟨fun x y h => by
  simp only [ltL, decide_eq_true_iff, decide_eq_false_iff_not, cmpV_lt] at h ⊢
  exact h.asymm, fun x y z h1 h2 => by
  simp only [ltL, decide_eq_false_iff_not, cmpV_lt] at h1 h2 ⊢
  intro h
  rcases LtV.tri (atV s y) (atV s z) with h3 | h3 | h3
  · rcases LtV.tri (atV s x) (atV s y) with h4 | h4 | h4
    · exact ((h4.trans h3).trans h).irrefl
    · rw [h4] at h; exact (h3.trans h).irrefl
    · exact h1 h4
  · rw [h3] at h1; exact h1 h
  · exact h2 h3⟩
theorem swo_map {α β : Type} {lt : β → β → Bool} (h : Swo lt) (g : α → β) : Swo (fun x y => lt (g x) (g y)) := ⟨fun x y => h.asym _ _, fun x y z => h.neg _ _ _⟩
theorem stab_map {α β : Type} {lt : β → β → Bool} (hw : Swo lt) (g : α → β) {l r : List α} (h : Stab (fun x y => lt (g x) (g y)) l r) : Stab lt (l.map g) (r.map g) := by
  refine ⟨List.pairwise_map.2 h.1, fun y => ?_⟩
  by_cases hy : ∃ x ∈ r, lt (g x) y = false ∧ lt y (g x) = false
  · obtain ⟨x, hx', h1, h2⟩ := hy
    have key : ∀ m : List α, alk lt y (m.map g) = (alk (fun x y => lt (g x) (g y)) x m).map g := fun m => by
      unfold alk
      rw [List.filter_map]
      congr 1
      apply List.filter_congr
      intro z _
      simp only [Function.comp]
      have e1 : lt y (g z) = lt (g x) (g z) := by
        cases e : lt y (g z)
        · cases e2 : lt (g x) (g z)
          · rfl
          · have := hw.lt_le e2 (z := y) (by exact e); rw [this] at h1; cases h1
        · cases e2 : lt (g x) (g z)
          · have := hw.lt_le e (z := g x) (by exact e2); rw [this] at h2; cases h2
          · rfl
      have e2 : lt (g z) y = lt (g z) (g x) := by
        cases e : lt (g z) y
        · cases e2 : lt (g z) (g x)
          · rfl
          · have := hw.le_lt e e2; rw [this] at h2; cases h2
        · cases e2 : lt (g z) (g x)
          · have := hw.le_lt e2 e; rw [this] at h1; cases h1
          · rfl
      rw [e1, e2]
    rw [key, key, h.2]
  · have hn : ∀ m : List α, (∀ x ∈ m, x ∈ r) → alk lt y (m.map g) = [] := fun m hm => by
      unfold alk
      rw [List.filter_eq_nil_iff]
      intro z hz
      obtain ⟨x, hx', rfl⟩ := List.mem_map.1 hz
      intro e
      simp only [Bool.and_eq_true, Bool.not_eq_true'] at e
      exact hy ⟨x, hm x hx', e.2, e.1⟩
    rw [hn r fun x h => h, hn l fun x hx' => (h.perm (swo_map hw g)).mem_iff.2 hx']
/-- The rows of a table, sorted. -/
def srtT (s : Nat) (L : List (List Vl)) : List (List Vl) := Classical.choose (stab_make (ltL_swo s) L)
theorem srtT_ok (s : Nat) (L : List (List Vl)) : Stab (ltL s) L (srtT s L) := (Classical.choose_spec (stab_make (ltL_swo s) L)).1
theorem srtT_uniq {s : Nat} {L R : List (List Vl)} (h : Stab (ltL s) L R) : R = srtT s L := Stab.uniq (ltL_swo s) h (srtT_ok s L)
theorem srtT_idem (s : Nat) (L : List (List Vl)) : srtT s (srtT s L) = srtT s L := (srtT_uniq (Stab.refl (srtT_ok s L).1)).symm
def sortT (g : Cfg) (L : List (List Vl)) : List (List Vl) := if 0 ≤ g.sort then srtT g.sort.toNat L else L
section
variable {J : List (World → Prop)} {H : List RC} {ad ad2 : Option Addr} {cap cap2 : Nat} {l : List Col} {rows : List Rw} {c : Col} {g : Cfg} {a : CfA}
set_option maxHeartbeats 4000000 in
theorem cColumn {p : Nat} (hb : rows.length ≤ 1000) (hb2 : ∀ r ∈ rows, p < r.2.length ∧ r.2.length ≤ 1000) (hJ2 : Ent J (Rs fRw 1 ad cap rows) := by exact jA) (hJ3 : Ent J (AllR fV 3 rows) := by exact jA) :
    Tr TP 67 [.slice ad rows.length cap, .int .i64 p] (Ctx J H) (fun x : Nat => .slice (some ⟨x, 0, none⟩) rows.length rows.length) (fun _ => True) (fun x => Ctx J (sl fV 3 68 (some ⟨x, 0, none⟩) rows.length (colV (rows.map (·.2)) p) :: H)) := by
  refine en0 Tryz.func67 rfl rfl rfl (addJ hJ2 (addJ (fun w j => hJ3 w j.2) (go ?_)))
  refine mk fV zV fun b => ?_
  refine go ?_
  refine lp (X := Nat) (fun k => k ≤ rows.length) (fun k => [(0, .slice ad rows.length cap), (1, .int .i64 p), (5, .slice (some ⟨b, 0, none⟩) rows.length rows.length), (11, .slice ad rows.length cap), (12, .int .i64 rows.length), (13, .int .i64 k)])
    (fun k => Ctx (AllR fV 3 rows :: Rs fRw 1 ad cap rows :: J) (sl fV 3 68 (some ⟨b, 0, none⟩) rows.length ((colV (rows.map (·.2)) p).take k ++ List.replicate (rows.length - k) zV) :: H)) (fun k => rows.length - k) 0 (by omega) rfl (fun _ h => by simpa using h) fun k hk => ?_
  refine go ?_
  have hcl : (colV (rows.map (·.2)) p).length = rows.length := by simp [colV]
  have hml : ((colV (rows.map (·.2)) p).take k ++ List.replicate (rows.length - k) zV).length = rows.length := by simp [hcl]; omega
  refine ⟨fun h1 => ?_, fun h1 => ?_⟩
  · have hk1 : k < rows.length := by omega
    obtain ⟨hp, hrl⟩ := hb2 _ (List.getElem_mem hk1)
    refine go ?_
    refine addJ (R := Rs fV 3 rows[k].1.1 rows[k].1.2 rows[k].2) (fun w j => j.1.at hk1) ?_
    refine go ?_
    have e1 : ((colV (rows.map (·.2)) p).take k ++ List.replicate (rows.length - k) zV).set k rows[k].2[p] = (colV (rows.map (·.2)) p).take (k + 1) ++ List.replicate (rows.length - (k + 1)) zV := by
      have e0 : (colV (rows.map (·.2)) p)[k]'(by omega) = rows[k].2[p] := by simp [colV, atV, hp]
      have e3 : ∀ n, n = (colV (rows.map (·.2)) p).length → ((colV (rows.map (·.2)) p).take k ++ List.replicate (n - k) zV).set k rows[k].2[p] = (colV (rows.map (·.2)) p).take (k + 1) ++ List.replicate (n - (k + 1)) zV := fun n hn => by
        subst hn; rw [← e0]; exact take_set (by omega) zV
      exact e3 _ hcl.symm
    exact en (k + 1) (by omega) rfl (fun _ h => by rw [← e1]; exact h.ent fun _ j => j.2)
  · obtain rfl : k = rows.length := by omega
    refine go ?_
    rw [List.take_of_length_le (by omega), Nat.sub_self, List.replicate_zero, List.append_nil]
    exact rt b trivial rfl (fun _ h => h.ent fun _ j => j.2.2)
end
end
end Go.Proofs.YtimemehaccgmmaaGreatDoor
namespace Go.Proofs.YtimemehaccgmmaaGreatDoor
open Go.RowKit
set_option maxRecDepth 100000
set_option linter.unusedVariables false
set_option linter.unusedSimpArgs false
noncomputable section
def ltR (s : Nat) (x y : Rw) : Bool := ltL s x.2 y.2
theorem ltR_swo (s : Nat) : Swo (ltR s) := ⟨fun x y => (ltL_swo s).asym x.2 y.2, fun x y z => (ltL_swo s).neg x.2 y.2 z.2⟩
theorem stabR {s : Nat} {X R : List Rw} (h : Stab (ltR s) X R) : Stab (ltL s) (X.map Prod.snd) (R.map Prod.snd) := stab_map (lt := ltL s) (ltL_swo s) (Prod.snd : Rw → List Vl) h
/-- A table that is not too large. -/
structure TOk (l : List Col) (g : Cfg) (R : List (List Vl)) : Prop where
  so : SOk l g
  bl : l.length ≤ 10
  br : R.length ≤ 60
  bw : ∀ r ∈ R, r.length ≤ 10
  bt : ∀ r ∈ R, ∀ v ∈ r, v.s.size ≤ 100
section
variable {J : List (World → Prop)} {H : List RC} {ad ad2 : Option Addr} {cap cap2 : Nat} {l : List Col} {rows : List Rw} {c : Col} {g : Cfg} {a : CfA}
theorem cCmpRw {s b : Nat} (X : List Rw) (hs' : g.sort = s) (hX : ∀ x ∈ X, s < x.2.length ∧ x.2.length ≤ 1000) (hJ : Ent J (pt b 26 (gC g a)).A) (hJ2 : Ent J (AllR fV 3 X)) : CmT 62 [pb b] J (· ∈ X) vRw (ltR s) := by
  intro J' H' hJ' x y hx1 hy1
  obtain ⟨x1, x2⟩ := hX x hx1
  obtain ⟨y1, y2⟩ := hX y hy1
  refine en0 Tryz.func62 rfl rfl rfl (addJ (R := Rs fV 3 x.1.1 x.1.2 x.2) (fun w j => hJ2 w (hJ' w j) x hx1) (addJ (R := Rs fV 3 y.1.1 y.1.2 y.2) (fun w j => hJ2 w (hJ' w j.2) y hy1) (addJ (R := (pt b 26 (gC g a)).A) (fun w j => hJ w (hJ' w j.2.2)) (go ?_))))
  unfold gC at *
  rw [hs']
  refine go ?_
  refine cg cCompare fun _ _ => ?_
  exact rt (cmpV x.2[s] y.2[s]) (by simp [ltR, ltL, atV, x1, y1]) rfl (fun _ h => h.ent fun _ j => j.2.2.2)
set_option maxHeartbeats 800000 in
theorem cTSortedOk (hf : fitsB l g = true) (hO : okT l (rows.map (·.2))) (ht : TOk l g (rows.map (·.2))) (hJ : Ent J (Rs fC 2 ad cap l) := by exact jA) (hJ2 : Ent J (Bn (gF' g a)) := by exact jA) (hJ3 : Ent J (Rs fRw 1 ad2 cap2 rows) := by exact jA) (hJ4 : Ent J (AllR fV 3 rows) := by exact jA) :
    Tr TP 22 [.slice ad l.length cap, gA' g a, .slice ad2 rows.length cap2] (Ctx J H) (fun x : Q2 × List Rw => .tuple #[.slice x.1.1 x.2.length x.1.2, .int .i64 0]) (fun x => x.2.map (·.2) = sortT g (rows.map (·.2))) (fun x => Ctx (Rs fRw 1 x.1.1 x.1.2 x.2 :: AllR fV 3 x.2 :: J) H) := by
  have hbr : rows.length ≤ 60 := by simpa using ht.br
  have hbl := ht.bl
  have hbw : ∀ r ∈ rows, r.2.length ≤ 1000 := fun r hr => by have := ht.bw _ (List.mem_map.2 ⟨r, hr, rfl⟩); omega
  have hso := (fit_ok hf).sortLt
  refine en0 Tryz.func22 rfl rfl rfl (addJ hJ (addJ (fun w j => hJ2 w j.2) (addJ (fun w j => hJ3 w j.2.2) (addJ (fun w j => hJ4 w j.2.2.2) (go ?_)))))
  intro b
  refine fzpc ?_
  refine ca (cFitsB ht.so) fun _ _ => ?_
  rw [hf]
  refine go ?_
  refine ca (cTMay hbr hbw (by omega) ht.so.bn) fun e he => ?_
  obtain rfl := he.2 hO
  refine go ?_
  refine cg (cTCopy (by omega) hbw) fun ⟨q, X⟩ hX => ?_
  dsimp only at hX
  have hXl : X.length = rows.length := by have := congrArg List.length hX; simpa using this
  refine ⟨fun h0 => ?_, fun h0 => ?_⟩
  · obtain ⟨s, hs'⟩ := Int.eq_ofNat_of_zero_le h0
    have hXs : ∀ x ∈ X, s < x.2.length ∧ x.2.length ≤ 1000 := fun x hx' => by
      have hm : x.2 ∈ rows.map (·.2) := by rw [← hX]; exact List.mem_map.2 ⟨x, hx', rfl⟩
      have h1 := (hO.2 _ hm).1.1
      have h2 := ht.bw _ hm
      omega
    refine go ?_
    have hw := ltR_swo s
    have hcm : CmT 62 [pb b] (AllR fV 3 X :: (pt b 26 (gC g a)).A :: AllR fV 3 rows :: Rs fRw 1 ad2 cap2 rows :: Bn (gF' g a) :: Rs fC 2 ad cap l :: J) (· ∈ X) vRw (ltR s) := cCmpRw (g := g) (a := a) X hs' hXs (by exact je1) (by exact je0)
    refine cg (sortRw hw hcm X hXl (by omega) (fun x h => h)) fun R hR => ?_
    have hRl := hR.len hw
    rw [show rows.length = R.length by omega]
    refine fz ?_
    refine rt (q, R) ?_ rfl (fun _ h => h.ent fun _ j => ⟨j.1, (fun r hr => j.2.1 r (hR.mem hw hr)), j.2.2.2.2.2.2.2⟩)
    dsimp only
    rw [sortT, if_pos h0, hs', ← hX]
    exact srtT_uniq (stabR hR)
  · refine go ?_
    rw [← hXl]
    refine fz ?_
    exact rt (q, X) (by dsimp only; rw [sortT, if_neg h0, hX]) rfl (fun _ h => h.ent fun _ j => ⟨j.1, j.2.1, j.2.2.2.2.2.2.2⟩)
/-- What may not be sorted is refused. -/
theorem cTSortedNo (hno : ¬(fitsB l g = true ∧ okT l (rows.map (·.2)))) (ht : TOk l g (rows.map (·.2))) (hJ : Ent J (Rs fC 2 ad cap l) := by exact jA) (hJ2 : Ent J (Bn (gF' g a)) := by exact jA) (hJ3 : Ent J (Rs fRw 1 ad2 cap2 rows) := by exact jA) (hJ4 : Ent J (AllR fV 3 rows) := by exact jA) :
    Tr TP 22 [.slice ad l.length cap, gA' g a, .slice ad2 rows.length cap2] (Ctx J H) (fun e : Int => .tuple #[.slice none 0 0, .int .i64 e]) (fun e => e ≠ 0) (fun _ => Ctx J H) := by
  have hbr : rows.length ≤ 60 := by simpa using ht.br
  have hbl := ht.bl
  have hbw : ∀ r ∈ rows, r.2.length ≤ 1000 := fun r hr => by have := ht.bw _ (List.mem_map.2 ⟨r, hr, rfl⟩); omega
  refine en0 Tryz.func22 rfl rfl rfl (addJ hJ (addJ (fun w j => hJ2 w j.2) (addJ (fun w j => hJ3 w j.2.2) (addJ (fun w j => hJ4 w j.2.2.2) (go ?_)))))
  intro b
  refine fzpc ?_
  refine ca (cFitsB ht.so) fun _ _ => ?_
  cases hf : fitsB l g with
  | false =>
    refine go ?_
    exact rt 2 (by decide) rfl (fun _ h => h.ent fun _ j => j.2.2.2.2.2)
  | true =>
    refine go ?_
    refine ca (cTMay hbr hbw (by omega) ht.so.bn) fun e he => ?_
    have he0 : e ≠ 0 := fun h => hno ⟨hf, he.1 h⟩
    refine go ?_
    exact rt e he0 rfl (fun _ h => h.ent fun _ j => j.2.2.2.2.2)
end
end
end Go.Proofs.YtimemehaccgmmaaGreatDoor
namespace Go.Proofs.YtimemehaccgmmaaGreatDoor
open Go.RowKit
set_option maxRecDepth 100000
set_option linter.unusedVariables false
set_option linter.unusedSimpArgs false
noncomputable section
/-- A figure as a text. -/
def dig (i : Nat) : ByteArray := ⟨#[UInt8.ofNat (48 + i)]⟩
/-- A section's name: letters, a point, a figure. -/
def nmS (s : List UInt8) (i : Nat) : ByteArray := ⟨(s ++ [46, UInt8.ofNat (48 + i)]).toArray⟩
theorem dig_eq : ∀ i : Fin 10, (ByteArray.mk #[48, 49, 50, 51, 52, 53, 54, 55, 56, 57, 97, 98, 99, 100, 101, 102, 103, 104, 105, 106, 107, 108, 109, 110, 111, 112, 113, 114, 115, 116, 117, 118, 119, 120, 121, 122]).extract i.val (i.val + 1) = dig i.val := by decide
theorem nmS_app (s : List UInt8) (i : Nat) : (ByteArray.mk s.toArray) ++ ((ByteArray.mk #[46]) ++ dig i) = nmS s i := by
  apply ByteArray.ext
  simp [nmS, dig]
theorem nmS_app2 (s : List UInt8) (i : Nat) : (ByteArray.mk (s ++ [46]).toArray) ++ dig i = nmS s i := by
  apply ByteArray.ext
  simp [nmS, dig]
theorem dig_size (i : Nat) : (dig i).size = 1 := rfl
section
variable {J : List (World → Prop)} {H : List RC} {ad ad2 : Option Addr} {cap cap2 : Nat} {l : List Col} {rows : List Rw} {c : Col} {g : Cfg} {a : CfA}
theorem cSmall {i : Nat} (hi : i < 10) : Tr TP 248 [.int .i64 i] (Ctx J H) (fun _ : Unit => .string (dig i)) (fun _ => True) (fun _ => Ctx J H) := by
  have hz : (ByteArray.mk #[48, 49, 50, 51, 52, 53, 54, 55, 56, 57, 97, 98, 99, 100, 101, 102, 103, 104, 105, 106, 107, 108, 109, 110, 111, 112, 113, 114, 115, 116, 117, 118, 119, 120, 121, 122]).size = 36 := rfl
  refine en0 Tryz.func248 rfl rfl rfl (gpl ?_)
  refine aT rfl (by omega) rfl ?_
  refine gpl ?_
  refine hA rfl rfl rfl (oWr rfl (IntWalk.i64_in _ (by omega))) rfl ?_
  refine hA rfl rfl rfl ((qSs (a := i) (b := i + 1) rfl rfl rfl rfl rfl ⟨by omega, by rw [hz]; omega⟩).os (fun _ _ => trivial)) rfl ?_
  refine go ?_
  rw [dig_eq ⟨i, hi⟩]
  exact rt () trivial rfl (fun _ h => h)
theorem cFmt {i : Nat} (hi : i < 10) : Tr TP 206 [.int .i64 i, .int .i64 10] (Ctx J H) (fun _ : Unit => .string (dig i)) (fun _ => True) (fun _ => Ctx J H) := by
  refine en0 Tryz.func206 rfl rfl rfl (go ?_)
  refine cg (cSmall hi) fun _ _ => ?_
  exact rt () trivial rfl (fun _ h => h)
theorem cItoa2 {i : Nat} (hi : i < 10) : Tr TP 131 [.int .i64 i] (Ctx J H) (fun _ : Unit => .string (dig i)) (fun _ => True) (fun _ => Ctx J H) := by
  refine en0 Tryz.func131 rfl rfl rfl (go ?_)
  refine cg (cFmt hi) fun _ _ => ?_
  exact rt () trivial rfl (fun _ h => h)
theorem cItoa {i : Nat} (hi : i < 10) : Tr TP 69 [.int .i64 i] (Ctx J H) (fun _ : Unit => .string (dig i)) (fun _ => True) (fun _ => Ctx J H) := by
  refine en0 Tryz.func69 rfl rfl rfl (go ?_)
  refine cg (cItoa2 hi) fun _ _ => ?_
  exact rt () trivial rfl (fun _ h => h)
end
end
end Go.Proofs.YtimemehaccgmmaaGreatDoor
namespace Go.Proofs.YtimemehaccgmmaaGreatDoor
open Go.RowKit
set_option maxRecDepth 100000
set_option linter.unusedVariables false
set_option linter.unusedSimpArgs false
noncomputable section
/-- What a maker has from the start. -/
structure Mk where
  mb : Nat
  lq : Q2
  l : List Col
  g : Cfg
  a : CfA
  rq : Q2
  R : List Rw
/-- What a maker makes. -/
structure MkV where
  S : Q2
  s : List Sec
  I : Q2
  i : List (Q2 × List Nat)
  M : Q2
  m : List Nat
  T : Q2
  t : List (Q2 × List Int)
abbrev mkC (x : Mk) (v : MkV) : List Value := [.slice x.lq.1 x.l.length x.lq.2, .int .i64 x.g.sort, .slice x.a.i.1 x.g.inv.length x.a.i.2, .slice x.a.r.1 x.g.rng.length x.a.r.2, .slice x.a.s.1 x.g.split.length x.a.s.2, .int .i64 x.g.leaf, .slice x.rq.1 x.R.length x.rq.2, .slice v.S.1 v.s.length v.S.2, .slice v.I.1 v.i.length v.I.2, .slice v.M.1 v.m.length v.M.2, .slice v.T.1 v.t.length v.T.2]
abbrev mkH (x : Mk) (v : MkV) (H : List RC) : List RC := pt x.mb 81 (mkC x v) :: sl fSec 2 157 v.S.1 v.S.2 v.s :: sl fNs 1 24 v.I.1 v.I.2 v.i :: sl fj 1 3 v.M.1 v.M.2 v.m :: sl fNs 1 54 v.T.1 v.T.2 v.t :: H
/-- Places in a dictionary. -/
def idV (D : List Vl) (v : Vl) : Nat := open Classical in if h : ∃ k, ∃ hk : k < D.length, D[k] = v then Classical.choose h else 0
theorem idV_ok {D : List Vl} {v : Vl} (h : v ∈ D) : ∃ hk : idV D v < D.length, D[idV D v] = v := by
  have h' : ∃ k, ∃ hk : k < D.length, D[k] = v := List.mem_iff_getElem.1 h
  have e : idV D v = Classical.choose h' := by unfold idV; rw [dif_pos h']
  have := Classical.choose_spec h'
  rw [← e] at this
  exact this
def idsV (c : List Vl) : List Nat := c.map (idV (dic c))
theorem idsV_len (c : List Vl) : (idsV c).length = c.length := by simp [idsV]
theorem idsV_ok {c : List Vl} (h : c.length ≤ 60) : IdOk (idsV c) (dic c).length := by
  refine ⟨by rw [idsV_len]; exact h, by have := dic_len c; omega, fun x hx => ?_, fun id hid => ?_⟩
  · obtain ⟨v, hv, rfl⟩ := List.mem_map.1 hx
    exact (idV_ok ((dic_mem c v).2 hv)).1
  · refine List.mem_map.2 ⟨(dic c)[id], (dic_mem c _).1 (List.getElem_mem hid), ?_⟩
    obtain ⟨h1, h2⟩ := idV_ok (List.getElem_mem hid)
    have hs := List.pairwise_iff_getElem.1 (dic_strict c)
    rcases Nat.lt_trichotomy (idV (dic c) (dic c)[id]) id with h3 | h3 | h3
    · have := hs _ _ h1 hid h3; rw [h2] at this; exact absurd this (LtV.irrefl _)
    · exact h3
    · have := hs _ _ hid h1 h3; rw [h2] at this; exact absurd this (LtV.irrefl _)
theorem idsV_up {c : List Vl} (h : c.length ≤ 60) (hup : c.Pairwise fun x y => ¬ LtV y x) : UpOk (idsV c) (dic c).length := by
  refine { idsV_ok h with up := fun i j hi hj => ?_ }
  simp only [idsV, List.length_map] at hj
  simp only [idsV, List.getElem_map]
  obtain ⟨h1, h2⟩ := idV_ok ((dic_mem c c[i]).2 (List.getElem_mem (by omega)))
  obtain ⟨h3, h4⟩ := idV_ok ((dic_mem c c[j]).2 (List.getElem_mem hj))
  refine Nat.le_of_not_lt fun h5 => ?_
  have h6 := List.pairwise_iff_getElem.1 (dic_strict c) _ _ h3 h1 h5
  rw [h2, h4] at h6
  exact List.pairwise_iff_getElem.1 hup i j (by omega) hj hi h6
section
variable {J : List (World → Prop)} {H : List RC} {ad ad2 : Option Addr} {cap cap2 : Nat} {x : Mk} {v : MkV} {i : Nat}
theorem cPut {s : ByteArray} {q : Q2} {xs : List Int} (hb : v.s.length ≤ 200) (hJ : Ent J (Rs f8 1 q.1 q.2 xs) := by exact jA) (hJ2 : Ent J (AllE sF8 v.s) := by exact jA) :
    Tr TP 24 [pb x.mb, .string s, .slice q.1 xs.length q.2] (Ctx J (mkH x v H)) (fun _ : Q2 => .tuple #[]) (fun _ => True) (fun S => Ctx (AllE sF8 (v.s ++ [⟨s, q, xs⟩]) :: J) (mkH x { v with S := S, s := v.s ++ [⟨s, q, xs⟩] } H)) := by
  refine en0 Tryz.func24 rfl rfl rfl (addJ hJ (addJ (fun w j => hJ2 w j.2) (go ?_)))
  intro b
  refine go ?_
  refine hx rfl rfl rfl (oAp1 (k := 1) (f := fSec) (y := ⟨s, q, xs⟩) rfl rfl rfl ln rfl rfl rfl rfl om (fun _ => rfl)) ?_
  intro S
  refine go ?_
  refine rtE S trivial rfl ?_
  exact (fun w h => Ctx.ent (J := AllE sF8 v.s :: Rs f8 1 q.1 q.2 xs :: J) (J' := AllE sF8 (v.s ++ [⟨s, q, xs⟩]) :: J) h fun w j => ⟨AllE.snoc (F := sF8) (a := ⟨s, q, xs⟩) j.1 j.2.1, j.2.2⟩)
set_option maxHeartbeats 2000000 in
theorem cBNumber (hb : x.R.length ≤ 60) (hw : ∀ r ∈ x.R, i < r.2.length ∧ r.2.length ≤ 10) (hi : i < 10) (hvs : v.s.length ≤ 199) (hvt : v.t.length ≤ 20) (hJ : Ent J (Rs fRw 1 x.rq.1 x.rq.2 x.R) := by exact jA) (hJ2 : Ent J (AllR fV 3 x.R) := by exact jA) (hJ3 : Ent J (AllE sF8 v.s) := by exact jA) (hJ4 : Ent J (AllR fi 1 v.t) := by exact jA) :
    Tr TP 27 [pb x.mb, .int .i64 i] (Ctx J (mkH x v H)) (fun _ : Q2 × Q2 × Q2 × Q2 => .tuple #[]) (fun _ => True) (fun r => Ctx (AllE sF8 (v.s ++ [⟨nmS [109, 101, 116, 114, 105, 99] i, r.2.1, metB ((colV (x.R.map (·.2)) i).map (·.n))⟩]) :: AllR fi 1 (v.t ++ [(r.2.2.2, (colV (x.R.map (·.2)) i).map (·.n))]) :: J)
      (mkH x { v with S := r.1, s := v.s ++ [⟨nmS [109, 101, 116, 114, 105, 99] i, r.2.1, metB ((colV (x.R.map (·.2)) i).map (·.n))⟩], T := r.2.2.1, t := v.t ++ [(r.2.2.2, (colV (x.R.map (·.2)) i).map (·.n))] } H)) := by
  generalize hc : colV (x.R.map (·.2)) i = c
  have hcl : c.length = x.R.length := by rw [← hc]; simp [colV]
  refine en0 Tryz.func27 rfl rfl rfl (addJ hJ (addJ (fun w j => hJ2 w j.2) (addJ (fun w j => hJ3 w j.2.2) (addJ (fun w j => hJ4 w j.2.2.2) (go ?_)))))
  refine cg (cColumn (by omega) (fun r hr => by have := hw r hr; omega)) fun y _ => ?_
  rw [hc]
  refine go ?_
  refine lp (X := Nat × Q2) (fun k => k.1 ≤ x.R.length) (fun (k, q) => [(0, pb x.mb), (1, .int .i64 i), (4, .slice q.1 (((c.take k).map (·.n)).length) q.2), (14, .slice (some ⟨y, 0, none⟩) x.R.length x.R.length), (15, .int .i64 x.R.length), (16, .int .i64 k)])
    (fun (k, q) => Ctx (AllR fi 1 v.t :: AllE sF8 v.s :: AllR fV 3 x.R :: Rs fRw 1 x.rq.1 x.rq.2 x.R :: J) (sl fi 1 2 q.1 q.2 ((c.take k).map (·.n)) :: sl fV 3 68 (some ⟨y, 0, none⟩) x.R.length c :: mkH x v H)) (fun k => x.R.length - k.1) (0, (none, 0)) (by dsimp only; omega) rfl (fun _ h => Ctx.nl h) fun (k, q) hk => ?_
  dsimp only at hk
  refine go ?_
  refine ⟨fun h1 => ?_, fun h1 => ?_⟩
  · have hk1 : k < c.length := by omega
    refine go ?_
    intro b1 b2 q2
    refine go ?_
    rw [show (c.take k).map (·.n) ++ [c[k].n] = (c.take (k + 1)).map (·.n) by rw [← List.take_append_getElem hk1, List.map_append]; rfl]
    exact en (k + 1, q2) ⟨by dsimp only; omega, by dsimp only; omega⟩ rfl (fun _ h => h.rest)
  · obtain rfl : k = x.R.length := by omega
    dsimp only
    rw [show c.take x.R.length = c by rw [← hcl]; exact List.take_length]
    refine fz (fz (go ?_))
    intro b1
    refine go ?_
    refine hx rfl rfl rfl (oAp1 (k := 4) (f := fNs) (y := (q, c.map (·.n))) rfl rfl rfl ln rfl rfl rfl rfl om (fun _ => rfl)) ?_
    intro T
    refine go ?_
    refine cg (cMOf (l := c.map fun v : Vl => v.n) (hb := by simp [hcl]; omega)) fun z _ => ?_
    refine cg (cItoa hi) fun _ _ => ?_
    have hg0 : (dig i).size = 1 := rfl
    have eN : (ByteArray.mk #[109, 101, 116, 114, 105, 99, 46]) ++ dig i = nmS [109, 101, 116, 114, 105, 99] i := nmS_app2 [109, 101, 116, 114, 105, 99] i
    refine hA rfl rfl rfl ((qSa rfl (show 7 + 1 ≤ _ by omega)).os (fun _ _ => trivial)) rfl ?_
    rw [eN]
    refine go ?_
    refine cg (cMBytes (l := c.map fun v : Vl => v.n) (hb := by simp [hcl]; omega)) fun S1 _ => ?_
    refine fzc ?_
    refine cg (cPut (v := { v with T := T, t := v.t ++ [(q, c.map (·.n))] }) (Nat.le_succ_of_le hvs) (hJ := fun w j => j.1) (hJ2 := fun w j => j.2.2.2.2.2.1)) fun S2 _ => ?_
    refine rtE (S2, S1, T, q) trivial rfl ?_
    intro w h
    obtain ⟨h1, h2, h3, h4⟩ := h
    exact ⟨fun w k => (fun j => ⟨j.1, AllR.snoc (a := (q, c.map (·.n))) j.2.2.2.2.2.1 j.2.2.2.2.1, j.2.2.2.2.2.2.2.2.2⟩) (h1 w k), h2, h3, h4⟩
end
end
end Go.Proofs.YtimemehaccgmmaaGreatDoor
