/-
  Parts of the walks and their plain laws (K12 K10 E32). No condition.
-/
import Derived.Test.YtimemehaccgmmaaGreatDoorM30
import Derived.Test.YtimemehaccgmmaaGreatDoorM31
import Derived.Test.YtimemehaccgmmaaGreatDoorM14
namespace Go.Proofs.YtimemehaccgmmaaGreatDoor
open Go.RowKit
set_option maxRecDepth 100000
set_option linter.unusedVariables false
set_option linter.unusedSimpArgs false
noncomputable section
/-- How many rows there are in records. -/
def cnt (l : List Pl) : Int := (l.map fun r => r.2.1).sum
def PosR (l : List Pl) : Prop := ∀ r ∈ l, 1 ≤ r.2.1
/-- What records come to that are put together. -/
structure TogOk (L out : List Pl) : Prop where
  ids : ∀ r ∈ out, ∃ x ∈ L, r.1 = x.1
  pos : PosR out
  cnt : cnt out = cnt L
/-- The tree that is made of rows. -/
def ofS (leaf k : Nat) (L : List Pl) : St := growP leaf k k false 0 (togs L).length ⟨togs L, []⟩
theorem of_len (leaf k : Nat) (L : List Pl) : (ofS leaf k L).R.length ≤ (k + 1) * L.length := by
  have h1 := (grow_bound leaf k k false 0 (togs L).length ⟨togs L, []⟩ (by omega)).1
  have h2 := togs_len L
  simp only [Bool.false_eq_true, if_false, Nat.sub_zero] at h1
  have h3 : k * (togs L).length ≤ k * L.length := Nat.mul_le_mul_left _ h2
  have h4 : (k + 1) * L.length = k * L.length + L.length := Nat.succ_mul _ _
  unfold ofS; omega
/-- A row's record. -/
def rowP (S : List (List Nat)) (M : List (List Int)) (i : Nat) : Pl := ((List.range 8).map fun j => (((S.getD j []).getD i 0 : Nat) : Int), 1, M.map fun l => ⟨l.getD i 0, l.getD i 0, l.getD i 0⟩)
def rowsP (S : List (List Nat)) (M : List (List Int)) (n : Nat) : List Pl := (List.range n).map (rowP S M)
section
variable {J : List (World → Prop)} {H : List RC} {ad ad2 ad3 : Option Addr} {cap cap2 cap3 : Nat} {sp : List (Q2 × List Nat)} {many : List Nat} {ms : List (Q2 × List Int)} {leaf n : Nat}
/-- A row's record, as far as it is made. -/
def rowR (sp : List (Q2 × List Nat)) (i k : Nat) (q : Q2) (f : List Fig) : Rec := ⟨fun j => if j < k then ((((sp.map (·.2)).getD j []).getD i 0 : Nat) : Int) else 0, 1, q, f⟩
theorem rowR_0 {i : Nat} : fRec (rowR sp i 0 (none, 0) []) = [.int .i64 0, .int .i64 0, .int .i64 0, .int .i64 0, .int .i64 0, .int .i64 0, .int .i64 0, .int .i64 0, .int .i64 1, .slice none 0 0] := by simp [fRec, rowR]
theorem rowR_s {i k : Nat} (hk : k < sp.length) (hi : i < sp[k].2.length) : (rowR sp i k (none, 0) []).sa k (sp[k].2[i] : Nat) = rowR sp i (k + 1) (none, 0) [] := by
  unfold Rec.sa rowR
  congr 1
  funext j
  dsimp only
  by_cases e : j = k
  · subst e
    rw [if_pos rfl, if_pos (by omega)]
    simp [hk, hi]
  · rw [if_neg e]
    by_cases e2 : j < k
    · rw [if_pos e2, if_pos (by omega)]
    · rw [if_neg e2, if_neg (by omega)]
theorem rowR_pl {i : Nat} {q : Q2} (hk : sp.length ≤ 8) : (rowR sp i sp.length q (ms.map fun l => ⟨l.2.getD i 0, l.2.getD i 0, l.2.getD i 0⟩)).pl = rowP (sp.map (·.2)) (ms.map (·.2)) i := by
  have h1 : ∀ j, (if j < sp.length then ((((sp.map (·.2)).getD j []).getD i 0 : Nat) : Int) else 0) = ((((sp.map (·.2)).getD j []).getD i 0 : Nat) : Int) := fun j => by
    by_cases e : j < sp.length
    · rw [if_pos e]
    · rw [if_neg e]
      have : (sp.map (·.2)).getD j [] = [] := by rw [List.getD_eq_getElem?_getD, List.getElem?_eq_none (by simp; omega)]; rfl
      rw [this]; rfl
  unfold Rec.pl rowP Rec.ids rowR
  simp only [h1, List.map_map]
  rfl
set_option maxHeartbeats 8000000 in
theorem cStOf (h : StOk sp many ms leaf n) (hJ : Ent J (Rs fNs 1 ad cap sp) := by exact jA) (hJ2 : Ent J (AllR fj 1 sp) := by exact jA) (hJ3 : Ent J (Rs fj 1 ad2 cap2 many) := by exact jA) (hJ4 : Ent J (Rs fNs 1 ad3 cap3 ms) := by exact jA) (hJ5 : Ent J (AllR fi 1 ms) := by exact jA) :
    Tr TP 30 [.slice ad sp.length cap, .slice ad2 many.length cap2, .slice ad3 ms.length cap3, .int .i64 leaf] (Ctx J H) (fun x : Nat × TS => .tuple #[pb x.1, .int .i64 0]) (fun x => x.2.pu = ofS leaf sp.length (rowsP (sp.map (·.2)) (ms.map (·.2)) n) ∧ ∀ y ∈ x.2.R, y.f.length = ms.length) (fun x => Ctx (Bn (tR x.1 sp.length ms.length leaf x.2) :: J) H) := by
  have h1 := h.k1
  have h2 := h.k8
  have h4 := h.mb
  have h6 := h.l2
  have h7 := h.nb
  refine en0 Tryz.func30 rfl rfl rfl (addJ hJ3 (addJ (fun w h => hJ5 w h.2) (addJ (fun w h => hJ4 w h.2.2) (addJ (fun w h => hJ2 w h.2.2.2) (addJ (fun w h => hJ w h.2.2.2.2) (go ?_))))))
  have hn0 : (sp[0]'(by omega)).2.length = n := h.sl _ (List.getElem_mem _)
  refine cg (cStMay h) fun _ _ => ?_
  rw [hn0]
  refine ⟨fun h => absurd h (by omega), fun _ => ?_⟩
  refine go ?_
  intro tb
  refine go ?_
  rw [hn0]
  refine lp (X := Nat × Q2 × List Rec) (fun x => x.1 ≤ n ∧ x.2.2.map Rec.pl = (List.range x.1).map (rowP (sp.map (·.2)) (ms.map (·.2)))) (fun (i, q, rows) => [(0, .slice ad sp.length cap), (2, .slice ad3 ms.length cap3), (10, pb tb), (11, .slice q.1 rows.length q.2), (40, .int .i64 n), (41, .int .i64 i)])
    (fun (i, q, rows) => Ctx (AllE figJ rows :: Rs fNs 1 ad cap sp :: AllR fj 1 sp :: Rs fNs 1 ad3 cap3 ms :: AllR fi 1 ms :: Rs fj 1 ad2 cap2 many :: J) (sl fRec 10 139 q.1 q.2 rows :: pt tb 134 [.int .i64 sp.length, .int .i64 ms.length, .int .i64 leaf, .slice none 0 0, .slice none 0 0] :: H)) (fun x => n - x.1) (0, (none, 0), []) (by simp) rfl (fun _ h => Ctx.nl (h.ent fun _ j => ⟨(fun _ h => nomatch h), j⟩)) fun (i, q, rows) ⟨hi, hr⟩ => ?_
  dsimp only at hi hr
  have hrl : rows.length = i := by have := congrArg List.length hr; simpa using this
  refine go ?_
  refine ⟨fun g1 => ?_, fun g1 => ?_⟩
  · have hi1 : i < n := by omega
    refine go ?_
    intro b
    refine lp (X := Nat) (fun k => k ≤ sp.length) (fun k => [(0, .slice ad sp.length cap), (2, .slice ad3 ms.length cap3), (10, pb tb), (11, .slice q.1 rows.length q.2), (12, .int .i64 i), (13, pb b), (40, .int .i64 n), (41, .int .i64 i), (45, .slice ad sp.length cap), (46, .int .i64 sp.length), (47, .int .i64 k)])
      (fun k => Ctx (AllE figJ rows :: Rs fNs 1 ad cap sp :: AllR fj 1 sp :: Rs fNs 1 ad3 cap3 ms :: AllR fi 1 ms :: Rs fj 1 ad2 cap2 many :: J) (pt b 139 (fRec (rowR sp i k (none, 0) [])) :: sl fRec 10 139 q.1 q.2 rows :: pt tb 134 [.int .i64 sp.length, .int .i64 ms.length, .int .i64 leaf, .slice none 0 0, .slice none 0 0] :: H)) (fun k => sp.length - k) 0 (by omega) rfl (fun _ h => by rw [rowR_0]; exact h) fun k hk => ?_
    refine go ?_
    refine ⟨fun g2 => ?_, fun g2 => ?_⟩
    · have hk1 : k < sp.length := by omega
      have hin : i < sp[k].2.length := by rw [h.sl _ (List.getElem_mem hk1)]; exact hi1
      refine addJ (R := Rs fj 1 sp[k].1.1 sp[k].1.2 sp[k].2) (fun w j => j.2.2.1.at hk1) ?_
      refine go ?_
      refine hA rfl rfl rfl ((qIxA (i := k) (off' := k) rfl rfl rfl rfl (by omega) (by simp [padd])).os (fun _ _ => trivial)) rfl ?_
      refine hA0 rfl rfl (oSt (k := 0) (q := fRec (rowR sp i (k + 1) (none, 0) [])) rfl rfl rfl rfl (by rw [← rowR_s hk1 hin]; exact st_rec (by omega)) rfl rfl rfl) rfl ?_
      refine go ?_
      exact en (k + 1) (by omega) rfl (fun _ h => h.ent fun _ j => j.2)
    · obtain rfl : k = sp.length := by omega
      refine go ?_
      refine pre (C' := Ctx (AllE figJ rows :: Rs fNs 1 ad cap sp :: AllR fj 1 sp :: Rs fNs 1 ad3 cap3 ms :: AllR fi 1 ms :: Rs fj 1 ad2 cap2 many :: J) (sl fFig 3 142 none 0 [] :: pt b 139 (fRec (rowR sp i sp.length (none, 0) [])) :: sl fRec 10 139 q.1 q.2 rows :: pt tb 134 [.int .i64 sp.length, .int .i64 ms.length, .int .i64 leaf, .slice none 0 0, .slice none 0 0] :: H)) (fun w h => Ctx.nl h) ?_
      obtain ⟨F, hF⟩ : ∃ F : List Fig, F = ms.map fun l => ⟨l.2.getD i 0, l.2.getD i 0, l.2.getD i 0⟩ := ⟨_, rfl⟩
      have hFl : F.length = ms.length := by rw [hF]; simp
      refine lp (X := Nat × Q2) (fun x => x.1 ≤ ms.length) (fun (k, qf) => [(0, .slice ad sp.length cap), (2, .slice ad3 ms.length cap3), (10, pb tb), (11, .slice q.1 rows.length q.2), (12, .int .i64 i), (13, pb b), (40, .int .i64 n), (41, .int .i64 i), (61, .slice ad3 ms.length cap3), (62, .int .i64 ms.length), (63, .int .i64 k)])
        (fun (k, qf) => Ctx (AllE figJ rows :: Rs fNs 1 ad cap sp :: AllR fj 1 sp :: Rs fNs 1 ad3 cap3 ms :: AllR fi 1 ms :: Rs fj 1 ad2 cap2 many :: J) (sl fFig 3 142 qf.1 qf.2 (F.take k) :: pt b 139 (fRec (rowR sp i sp.length qf (F.take k))) :: sl fRec 10 139 q.1 q.2 rows :: pt tb 134 [.int .i64 sp.length, .int .i64 ms.length, .int .i64 leaf, .slice none 0 0, .slice none 0 0] :: H)) (fun x => ms.length - x.1) (0, (none, 0)) (by dsimp only; omega) rfl (fun _ h => h) fun (k, qf) hk2 => ?_
      dsimp only at hk2
      refine go ?_
      refine ⟨fun g3 => ?_, fun g3 => ?_⟩
      · have hk1 : k < ms.length := by omega
        have hin : i < ms[k].2.length := by rw [h.tl _ (List.getElem_mem hk1)]; exact hi1
        refine addJ (R := Rs fi 1 ms[k].1.1 ms[k].1.2 ms[k].2) (fun w j => j.2.2.2.2.1.at hk1) ?_
        refine go ?_
        intro b1
        refine dp1 (f := fFig) ⟨ms[k].2[i], ms[k].2[i], ms[k].2[i]⟩ fun q2 => ?_
        have eF : F.take k ++ [⟨ms[k].2[i], ms[k].2[i], ms[k].2[i]⟩] = F.take (k + 1) := by
          rw [← List.take_append_getElem (show k < F.length by omega)]
          congr 1
          simp [hF, hin]
        rw [eF]
        refine go ?_
        exact en (k + 1, q2) ⟨by dsimp only; omega, by dsimp only; omega⟩ rfl (fun _ h => h.ent fun _ j => j.2)
      · obtain rfl : k = ms.length := by omega
        refine go ?_
        intro b1 q2
        rw [show F.take ms.length = F from List.take_of_length_le (by omega)]
        refine go ?_
        refine en (i + 1, q2, rows ++ [rowR sp i sp.length qf F]) ⟨⟨by dsimp only; omega, ?_⟩, by dsimp only; omega⟩ rfl (fun w h => ?_)
        · rw [List.map_append, hr, List.range_succ, List.map_append]
          congr 1
          simp only [List.map_cons, List.map_nil]
          rw [hF, rowR_pl (by omega)]
        · have h3 := h.drp 1
          exact h3.fzS.ent fun _ j => ⟨AllE.snoc (F := figJ) (a := rowR sp i sp.length qf F) j.2.1 j.1, j.2.2⟩
  · obtain rfl : i = n := by omega
    refine go ?_
    have hrf : ∀ x ∈ rows, x.f.length = ms.length := fun x hx => by
      have : x.pl ∈ (List.range i).map (rowP (sp.map (·.2)) (ms.map (·.2))) := by rw [← hr]; exact List.mem_map.2 ⟨x, hx, rfl⟩
      obtain ⟨j, -, e⟩ := List.mem_map.1 this
      have e2 := congrArg (fun p : Pl => p.2.2.length) e
      simpa [rowP, Rec.pl] using e2.symm
    refine ca (cTog (R := rows) (nf := ms.length) hrf (by omega) (by omega)) fun ⟨q3, l⟩ ⟨R', hR', hl⟩ => ?_
    dsimp only at hl
    have hl2 : l.map Rec.pl = togs (rowsP (sp.map (·.2)) (ms.map (·.2)) i) := by rw [hl, togs_of hR', hr]; rfl
    have hll : l.length ≤ 60 := by
      have h1 := congrArg List.length hl2
      have h2 := togs_len (rowsP (sp.map (·.2)) (ms.map (·.2)) i)
      simp only [rowsP, List.length_map, List.length_range] at h1 h2; omega
    have hlf : ∀ x ∈ l, x.f.length = ms.length := fun x hx => by
      have : x.pl ∈ togs (rows.map Rec.pl) := by rw [hr]; show _ ∈ togs (rowsP _ _ i); rw [← hl2]; exact List.mem_map.2 ⟨x, hx, rfl⟩
      exact togs_f (L := rows.map Rec.pl) (fun y hy => by obtain ⟨z, hz, rfl⟩ := List.mem_map.1 hy; exact hrf z hz) _ this
    refine go ?_
    dsimp only
    refine frc 1 rfl ?_
    have hgb := grow_bound leaf sp.length sp.length false 0 l.length (TS.pu ⟨l, q3, [], (none, 0)⟩) (by omega)
    have hp4 : 4 ^ sp.length ≤ 4 ^ 4 := Nat.pow_le_pow_right (by omega) h2
    have hmul : 4 ^ sp.length * (l.length - 0 + 1) ≤ 256 * 61 := Nat.mul_le_mul hp4 (by omega)
    have hmul2 : sp.length * (l.length - 0) ≤ 4 * 60 := Nat.mul_le_mul h2 (by omega)
    have hpR : (TS.pu ⟨l, q3, [], (none, 0)⟩).R.length = l.length := pu_R
    have hpN : (TS.pu ⟨l, q3, [], (none, 0)⟩).N.length = 0 := pu_N
    simp only [Bool.false_eq_true, if_false, hpR, hpN] at hgb
    refine prec (C' := Ctx _ (tH tb sp.length ms.length leaf ⟨l, q3, [], (none, 0)⟩ H)) (fun w h => (Ctx.nl h).perm ((List.Perm.swap _ _ _).trans ((List.Perm.swap _ _ _).cons _))) ?_
    refine ca (cGrw (k := sp.length) (m := ms.length) (by omega) (by omega) h6 sp.length (T := ⟨l, q3, [], (none, 0)⟩) (d := 0) (p := 0) (q := l.length) (st := false) (by omega) jA (by intro w _ x hx; cases hx) ⟨by omega, by omega⟩ (by simp) hlf (by omega) (by omega)) fun S2 ⟨hS2, hf2⟩ => ?_
    refine go ?_
    refine fzp (fz (fz ?_))
    refine rt (tb, S2) ⟨?_, hf2⟩ rfl (fun _ h => h.ent fun _ j => ⟨⟨j.2.2.1, j.2.1, j.1, j.2.2.2.1, j.2.2.2.2.1, trivial⟩, j.2.2.2.2.2.2.2.2.2.2.2.2⟩)
    dsimp only
    rw [hS2]
    unfold ofS
    rw [← hl2]
    simp [TS.pu]
end
section
variable {P : Program} {n : Fr} {ops : Array Oper} {s : List KI} {L L' L0 : Env} {C C' : World → Prop} {Q : Exit → Act → World → Prop} {J : List (World → Prop)} {H H0 : List RC} {D : List Vq} {E E' E0 : List Nat} {t : Nat}
section
variable {α β γ : Type} {f : α → List Value} {g : β → List Value} {h : γ → List Value} {sz sz2 sz3 : Nat} {ad ad2 ad3 : Option Addr} {cap cap2 cap3 : Nat} {xs : List α} {ys : List β} {zs : List γ} {e e2 e3 : TypeId}
end
end
end
end Go.Proofs.YtimemehaccgmmaaGreatDoor
