/-
  Parts of the walks and their plain laws (U4). No condition.
-/
import Derived.Test.YtimemehaccgmmaaGreatDoorM37
namespace Go.Proofs.YtimemehaccgmmaaGreatDoor
open Go.RowKit
set_option maxRecDepth 100000
set_option linter.unusedVariables false
set_option linter.unusedSimpArgs false
noncomputable section
section
variable {J : List (World → Prop)} {H : List RC} {d : Nat} {x : CaD}
set_option maxHeartbeats 16000000 in
theorem cTopSizes (hx1 : CaOk x) (hT : Ent J TabT) (hJ : Ent J (Bn (caF d x))) : Tr TP 4 [.agg ⟨caC x⟩] (Ctx J H) (fun _ : Unit => .bool true) (fun _ => True) (fun _ => Ctx J H) := by
  refine en0 Tryz.func4 rfl rfl rfl ?_
  refine go ?_
  intro b
  refine ca (cTame (d := d) (x := x) (by exact hJ)) fun bb hb => ?_
  cases bb with
  | false =>
    refine go ?_
    exact rt () trivial rfl (fun _ h => h.rest)
  | true =>
  have ht := hb rfl
  have hj1 : Ent J (Rs fC 2 x.lq.1 x.lq.2 x.l) := fun w j => (hJ w j).out.1
  have hj2 : Ent J (Bn (gF' x.g x.a)) := fun w j => (hJ w j).out.2.1
  have hj3 : Ent J (Rs fRw 1 x.rq.1 x.rq.2 x.rows) := fun w j => (hJ w j).out.2.2.1
  have hj4 : Ent J (AllR fV 3 x.rows) := fun w j => (hJ w j).out.2.2.2.1
  have hlen2 := ht.r
  have hgs := ht.s
  have hsl : x.g.split.length ≤ 4 := ht.s
  refine go ?_
  rcases (Classical.em (fitsB x.l x.g = true ∧ okT x.l (x.rows.map (·.2)))).symm with hfo | hfo
  · refine ca (cBuildNo (a := x.a) hfo (hx1.tok ht) hj1 hj2 hj3 hj4) fun e he => ?_
    refine go ?_
    exact rt () trivial rfl (fun _ h => h.rest)
  have hbo := hx1.bok ht hfo.1 hfo.2
  obtain ⟨R, hR⟩ : ∃ R, R = sortT x.g (x.rows.map (·.2)) := ⟨_, rfl⟩
  have hRl : R.length = x.rows.length := by rw [hR, sortT_len, List.length_map]
  have hBR : BOk x.l x.g R := by rw [hR]; exact hbo.srt
  have hsR : sortT x.g R = R := by rw [hR]; exact sortT_idem _ _
  have hsR2 : SrtR x.g R := by rw [hR]; exact sortT_srt _ _
  refine ca (cBuildOk (a := x.a) hbo hT hj1 hj2 hj3 hj4) fun q _ => ?_
  rw [← hR]
  refine go ?_
  refine fzc ?_
  obtain ⟨g, hg⟩ : ∃ g, g = nrm' x.g x.l.length := ⟨_, rfl⟩
  have hgs : g.split = x.g.split := by rw [hg]; rfl
  refine ca (cOpen (l := x.l) (g0 := x.g) (g := g) (R := R) hBR hsR hsR2 hg rfl (by exact fun w j => hT w j.2) (by exact fun w j => j.1)) fun y hy => ?_
  have h0 : 1 ≤ x.l.length := (fit_ok hfo.1).len.1
  have hBg : BOk x.l g R := hy.s.b
  rcases (Nat.eq_zero_or_pos x.g.split.length).symm with hsp | hsp
  · have hsp2 : 0 < g.split.length := by rw [hgs]; exact hsp
    have hst : y.2.2.1.st = .pointer (some ⟨y.2.2.2.1, 0, none⟩) := by rw [hy.st, decide_eq_true hsp2]; rfl
    have hSt : ∀ {J : List (World → Prop)} {H : List RC} (hJ : Ent J (Bn (opF x.l g R y))), Tr TP 18 [pb y.1] (Ctx J H) (fun _ : Unit => .pointer (some ⟨y.2.2.2.1, 0, none⟩)) (fun _ => True) (fun _ => Ctx J H) := fun {J H} hJ => by
      have := cSStar (H := H) (x := y.2.2.1) h0 (fun w j => (hJ w j).out.1.out.1)
      rw [hst] at this; exact this
    have hTr : ∀ {J : List (World → Prop)} (hJ : Ent J (Bn (opF x.l g R y))), Ent J (Bn (tR y.2.2.2.1 g.split.length (metT x.l R x.l.length).length g.leaf.toNat y.2.2.2.2)) := fun hJ w j => (hJ w j).out.2.1 hsp2
    obtain ⟨s1, s2, s3, BB, EE, s4, s5, s6, s7, s8⟩ := star_sum hBg (hy.tr hsp2)
    refine go ?_
    refine ca (hSt (by exact fun w j => j.1)) fun _ _ => ?_
    refine go ?_
    refine ⟨fun h => absurd (decide_eq_true (by omega : (0 : Int) < x.g.split.length)).symm h, fun _ => ?_⟩
    refine go ?_
    refine ca (hSt (by exact fun w j => j.1)) fun _ _ => ?_
    refine go ?_
    refine ca (hSt (by exact fun w j => j.1)) fun _ _ => ?_
    refine go ?_
    refine ca (cTRecs (T := y.2.2.2.2) hsp2 (by exact hTr fun w j => j.1)) fun _ _ => ?_
    refine go ?_
    rw [hgs, hRl] at s1
    obtain ⟨P, hP⟩ : ∃ P : Nat, P = (x.g.split.length + 1) * x.rows.length := ⟨_, rfl⟩
    have hP2 : P ≤ 5 * 60 := by rw [hP]; exact Nat.mul_le_mul (by omega) hlen2
    have hw : IntKind.i64.wrap (((x.g.split.length : Int) + 1) * (x.rows.length : Int)) = (P : Int) := by
      rw [hP]
      have : (((x.g.split.length : Int) + 1) * (x.rows.length : Int)) = (((x.g.split.length + 1) * x.rows.length : Nat) : Int) := by simp
      rw [this]
      exact wr_in (by omega) (by omega)
    rw [← hP] at s1
    rw [hw]
    refine ⟨fun h => absurd h (by omega), fun _ => ?_⟩
    refine go ?_
    refine ca (hSt (by exact fun w j => j.1)) fun _ _ => ?_
    refine go ?_
    refine ca (cTRecs (T := y.2.2.2.2) hsp2 (by exact hTr fun w j => j.1)) fun _ _ => ?_
    refine go ?_
    rw [hRl] at s5 s6 s7 s8
    rw [hgs] at s7 s8
    have hkk : g.split.length = x.g.split.length := by rw [hgs]
    have hcp : ∀ i, 0 ≤ cnt (BB.take i) ∧ cnt (BB.take i) + cnt (BB.drop i) = cnt BB ∧ 0 ≤ cnt (BB.drop i) := fun i => by
      have p1 : PosR BB := fun r hr => (s7 r hr).2.1
      refine ⟨cnt_pos fun r hr => p1 r (List.mem_of_mem_take hr), ?_, cnt_pos fun r hr => p1 r (List.mem_of_mem_drop hr)⟩
      rw [← cnt_app, List.take_append_drop]
    refine lp (X := Nat × Int × Nat) (fun y' => y'.1 ≤ y.2.2.2.2.R.length ∧ y'.2.1 = cnt (BB.take y'.1) ∧ y'.2.2 = (BB.take y'.1).length)
      (fun (i, c, n) => [(1, .pointer (some ⟨b, 0, none⟩)), (2, .bool false), (5, pb y.1), (7, .int .i64 x.g.split.length), (8, .int .i64 c), (9, .int .i64 n), (72, .int .i64 y.2.2.2.2.R.length), (73, .int .i64 i)])
      (fun _ => Ctx (Bn (opF x.l g R y) :: Rs f8 1 q.1 q.2 (secsB (imgS x.l x.g R)) :: J) (pt b 30 (caC x) :: H)) (fun y' => y.2.2.2.2.R.length - y'.1) (0, 0, 0) ⟨Nat.zero_le _, rfl, by simp⟩ rfl (fun _ h => h) fun (i, c, n) ⟨hi, hc, hn⟩ => ?_
    dsimp only at hi hc hn
    dsimp only
    refine go ?_
    refine ⟨fun h1 => ?_, fun h1 => ?_⟩
    · have hi1 : i < y.2.2.2.2.R.length := by omega
      refine go ?_
      refine ca (hSt (by exact fun w j => j.1)) fun _ _ => ?_
      refine go ?_
      refine ca (cTRec (T := y.2.2.2.2) (i := i) hsp2 (by omega) hi1 (by omega) s3 (by exact hTr fun w j => j.1)) fun y' _ => ?_
      have hpl : (y.2.2.2.2.R.map Rec.pl)[i]? = some y.2.2.2.2.R[i].pl := by rw [List.getElem?_map, List.getElem?_eq_getElem hi1]; rfl
      obtain ⟨r, hr⟩ : ∃ r, r = y.2.2.2.2.R[i] := ⟨_, rfl⟩
      rw [← hr] at hpl ⊢
      rw [s4] at hpl
      have hI8 : r.ids.length = 8 := rfl
      have hst2 : (stars x.g.split.length r.pl = 0 ∧ i < BB.length ∧ BB.take (i + 1) = BB.take i ++ [r.pl] ∨ stars x.g.split.length r.pl = 1 ∧ BB.length ≤ i ∧ BB.take (i + 1) = BB.take i) ∧ 1 ≤ r.n ∧ r.n ≤ x.rows.length := by
        rcases Nat.lt_or_ge i BB.length with h2 | h2
        · rw [List.getElem?_append_left h2] at hpl
          obtain ⟨_, e⟩ := List.getElem?_eq_some_iff.1 hpl
          have h3 := s7 r.pl (e ▸ List.getElem_mem h2)
          exact ⟨.inl ⟨h3.1, h2, by rw [List.take_succ_eq_append_getElem h2, e]⟩, h3.2⟩
        · rw [List.getElem?_append_right h2] at hpl
          have h3 := s8 r.pl (List.mem_of_getElem? hpl)
          exact ⟨.inr ⟨h3.1, h2, by rw [List.take_of_length_le (by omega), List.take_of_length_le h2]⟩, h3.2⟩
      obtain ⟨hst2, hn1, hn2⟩ := hst2
      obtain ⟨I, hI⟩ : ∃ I, I = List.take g.split.length r.ids := ⟨_, rfl⟩
      have hIl : I.length = x.g.split.length := by rw [hI, List.length_take, hI8]; omega
      have hIs : (I.filter fun z => decide (z = -1)).length = stars x.g.split.length r.pl := by rw [hI, hkk]; rfl
      rw [← hI]
      have hc0 := hcp i
      refine go ?_
      intro b3
      refine lp (X := Nat) (fun j => j ≤ I.length)
        (fun j => [(1, .pointer (some ⟨b, 0, none⟩)), (2, .bool false), (5, pb y.1), (7, .int .i64 x.g.split.length), (8, .int .i64 c), (9, .int .i64 n), (11, .pointer (some ⟨b3, 0, none⟩)), (13, .int .i64 ((I.take j).filter fun z => decide (z = -1)).length), (72, .int .i64 y.2.2.2.2.R.length), (73, .int .i64 i), (93, .slice y'.1.1 I.length y'.1.2), (94, .int .i64 I.length), (95, .int .i64 j)])
        (fun _ => Ctx (Rs fi 1 y'.1.1 y'.1.2 I :: Bn (opF x.l g R y) :: Rs f8 1 q.1 q.2 (secsB (imgS x.l x.g R)) :: J) (pt b3 56 [.slice y'.1.1 I.length y'.1.2, .int .i64 r.n, .slice y'.2.1.1 r.f.length y'.2.1.2, .slice y'.2.2.1.1 r.f.length y'.2.2.1.2, .slice y'.2.2.2.1 r.f.length y'.2.2.2.2] :: pt b 30 (caC x) :: H)) (fun j => I.length - j) 0 (Nat.zero_le _) rfl (fun _ h => h) fun j hj => ?_
      have hfl : ((I.take j).filter fun z => decide (z = -1)).length ≤ j := Nat.le_trans (List.length_filter_le ..) (by rw [List.length_take]; omega)
      refine go ?_
      refine ⟨fun h2 => ?_, fun h2 => ?_⟩
      · have hj1 : j < I.length := by omega
        have e1 : I.take (j + 1) = I.take j ++ [I[j]] := List.take_succ_eq_append_getElem hj1
        refine go ?_
        refine ⟨fun h3 => ?_, fun h3 => ?_⟩
        · refine go ?_
          refine en (j + 1) ⟨by omega, by omega⟩ ?_ (fun _ h => h)
          rw [e1, List.filter_append, List.filter_cons, if_pos (by simpa using h3)]
          simp
        · refine go ?_
          refine en (j + 1) ⟨by omega, by omega⟩ ?_ (fun _ h => h)
          rw [e1, List.filter_append, List.filter_cons, if_neg (by simpa using h3)]
          simp
      · obtain rfl : j = I.length := by omega
        rw [List.take_length, hIs] at hfl
        simp only [List.take_length, hIs]
        refine go ?_
        refine ⟨fun h3 => ?_, fun h3 => ?_⟩
        · rcases hst2 with ⟨h4, h5, h6⟩ | ⟨h4, -⟩
          · have h7 : cnt (BB.take (i + 1)) = cnt (BB.take i) + r.n := by rw [h6, cnt_app]; simp [cnt]; rfl
            have h8 : (BB.take (i + 1)).length = (BB.take i).length + 1 := by rw [h6]; simp
            have h9 : (BB.take i).length ≤ i := by rw [List.length_take]; omega
            refine go ?_
            exact en (i + 1, c + r.n, n + 1) ⟨⟨by dsimp only; omega, by dsimp only; rw [h7, hc], by dsimp only; rw [h8, hn]⟩, by dsimp only; omega⟩ (by simp) (fun w h => h.rest.ent fun w j => j.2)
          · omega
        · rcases hst2 with ⟨h4, -⟩ | ⟨h4, h5, h6⟩
          · omega
          · refine go ?_
            exact en (i + 1, c, n) ⟨⟨by dsimp only; omega, by dsimp only; rw [h6, hc], by dsimp only; rw [h6, hn]⟩, by dsimp only; omega⟩ rfl (fun w h => h.rest.ent fun w j => j.2)
    · have h2 : BB.length + EE.length = y.2.2.2.2.R.length := by have := congrArg List.length s4; simp at this; omega
      rw [List.take_of_length_le (by omega)] at hc hn
      refine go ?_
      rw [show decide (c = (x.rows.length : Int)) = true from decide_eq_true (by omega)]
      exact rt () trivial rfl (fun _ h => h.rest.ent fun _ j => j.2.2)
  · have hsp2 : ¬ 0 < g.split.length := by rw [hgs]; omega
    have hst : y.2.2.1.st = .pointer none := by rw [hy.st, decide_eq_false hsp2]; rfl
    have hSt : ∀ {J : List (World → Prop)} {H : List RC} (hJ : Ent J (Bn (opF x.l g R y))), Tr TP 18 [pb y.1] (Ctx J H) (fun _ : Unit => .pointer none) (fun _ => True) (fun _ => Ctx J H) := fun {J H} hJ => by
      have := cSStar (H := H) (x := y.2.2.1) h0 (fun w j => (hJ w j).out.1.out.1)
      rw [hst] at this; exact this
    refine go ?_
    refine ca (hSt (by exact fun w j => j.1)) fun _ _ => ?_
    refine go ?_
    refine ⟨fun h => absurd (decide_eq_false (by omega : ¬ (0 : Int) < x.g.split.length)).symm h, fun _ => ?_⟩
    refine go ?_
    refine ca (hSt (by exact fun w j => j.1)) fun _ _ => ?_
    refine go ?_
    exact rt () trivial rfl (fun _ h => h.rest.ent fun _ j => j.2.2)
end
end
end Go.Proofs.YtimemehaccgmmaaGreatDoor
