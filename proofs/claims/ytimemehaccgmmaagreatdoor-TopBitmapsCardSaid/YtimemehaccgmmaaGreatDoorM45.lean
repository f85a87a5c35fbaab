/-
  Parts of the walks and their plain laws (U5). No condition.
-/
import Derived.Test.YtimemehaccgmmaaGreatDoorM37
import Derived.Test.YtimemehaccgmmaaGreatDoorM44
namespace Go.Proofs.YtimemehaccgmmaaGreatDoor
open Go.RowKit
set_option maxRecDepth 100000
set_option linter.unusedVariables false
set_option linter.unusedSimpArgs false
noncomputable section
section
variable {J : List (World → Prop)} {H : List RC} {d : Nat} {x : CaD}
set_option maxHeartbeats 16000000 in
theorem cTopBitmaps (hx1 : CaOk x) (hT : Ent J TabT) (hJ : Ent J (Bn (caF d x))) : Tr TP 3 [.agg ⟨caC x⟩] (Ctx J H) (fun _ : Unit => .bool true) (fun _ => True) (fun _ => Ctx J H) := by
  refine en0 Tryz.func3 rfl rfl rfl ?_
  refine go ?_
  intro b
  refine ca (cTame (d := d) (x := x) (by exact hJ)) fun bb hb => ?_
  cases bb with
  | false =>
    refine go ?_
    exact rt () trivial rfl (fun _ h => h.rest)
  | true =>
  have ht := hb rfl
  have hj1 : Ent J (Rs fC 2 x.lq.1 x.lq.2 x.l) := fun w j => (hJ w j).out.1
  have hj2 : Ent J (Bn (gF' x.g x.a)) := fun w j => (hJ w j).out.2.1
  have hj3 : Ent J (Rs fRw 1 x.rq.1 x.rq.2 x.rows) := fun w j => (hJ w j).out.2.2.1
  have hj4 : Ent J (AllR fV 3 x.rows) := fun w j => (hJ w j).out.2.2.2.1
  have hlen2 := ht.r
  have hgs := ht.s
  have hsl : x.g.split.length ≤ 4 := ht.s
  refine go ?_
  rcases (Classical.em (fitsB x.l x.g = true ∧ okT x.l (x.rows.map (·.2)))).symm with hfo | hfo
  · refine ca (cBuildNo (a := x.a) hfo (hx1.tok ht) hj1 hj2 hj3 hj4) fun e he => ?_
    refine go ?_
    exact rt () trivial rfl (fun _ h => h.rest)
  have hbo := hx1.bok ht hfo.1 hfo.2
  obtain ⟨R, hR⟩ : ∃ R, R = sortT x.g (x.rows.map (·.2)) := ⟨_, rfl⟩
  have hRl : R.length = x.rows.length := by rw [hR, sortT_len, List.length_map]
  have hBR : BOk x.l x.g R := by rw [hR]; exact hbo.srt
  have hsR : sortT x.g R = R := by rw [hR]; exact sortT_idem _ _
  have hsR2 : SrtR x.g R := by rw [hR]; exact sortT_srt _ _
  refine ca (cBuildOk (a := x.a) hbo hT hj1 hj2 hj3 hj4) fun q _ => ?_
  rw [← hR]
  refine go ?_
  refine fzc ?_
  obtain ⟨g, hg⟩ : ∃ g, g = nrm' x.g x.l.length := ⟨_, rfl⟩
  have hgs : g.split = x.g.split := by rw [hg]; rfl
  refine ca (cOpen (l := x.l) (g0 := x.g) (g := g) (R := R) hBR hsR hsR2 hg rfl (by exact fun w j => hT w j.2) (by exact fun w j => j.1)) fun y hy => ?_
  have h0 : 1 ≤ x.l.length := (fit_ok hfo.1).len.1
  have hBg : BOk x.l g R := hy.s.b
  have hCl : y.2.1.length = x.l.length := hy.s.len
  have hbl := ht.l
  refine go ?_
  refine lp (X := Nat) (fun c => c ≤ x.l.length) (fun c => [(1, .pointer (some ⟨b, 0, none⟩)), (2, .bool false), (5, pb y.1), (43, .int .i64 x.l.length), (44, .int .i64 c)])
    (fun _ => Ctx (Bn (opF x.l g R y) :: Rs f8 1 q.1 q.2 (secsB (imgS x.l x.g R)) :: J) (pt b 30 (caC x) :: H)) (fun c => x.l.length - c) 0 (Nat.zero_le _) rfl (fun _ h => h) fun c hc => ?_
  refine go ?_
  refine ⟨fun h1 => ?_, fun h1 => ?_⟩
  · have hc1 : c < x.l.length := by omega
    have hc2 : c < y.2.1.length := by omega
    obtain ⟨C, hC⟩ : ∃ C, C = y.2.1[c] := ⟨_, rfl⟩
    have hck := hy.s.ok c hc2
    rw [← hC] at hck
    refine go ?_
    refine ca (cSDict (x := y.2.2.1) (C := y.2.1) h0 hc2 (by exact fun w j => j.1.out.1.out.1) (by exact fun w j => j.1.out.1.out.2.1)) fun _ _ => ?_
    rw [← hC]
    cases hd : C.dim with
    | false =>
      refine go ?_
      exact en (c + 1) ⟨by omega, by omega⟩ (by simp) (fun _ h => h)
    | true =>
      have hcl : (colV R c).length = R.length := by simp [colV]
      obtain ⟨ids, hids⟩ : ∃ ids, ids = idsV (colV R c) := ⟨_, rfl⟩
      obtain ⟨D, hD⟩ : ∃ D, D = dic (colV R c) := ⟨_, rfl⟩
      have hil : ids.length = R.length := by rw [hids, idsV_len, hcl]
      have hI : IdOk ids D.length := by rw [hids, hD]; exact idsV_ok (by omega)
      have hF0 : ∀ {J : List (World → Prop)} (hJ : Ent J (Bn (opF x.l g R y))), Ent J (clF x.l R c C) := fun hJ w j => by rw [hC]; exact (hJ w j).out.1.out.2.2.1 c hc2
      have hF1 : ∀ {J : List (World → Prop)} (hJ : Ent J (Bn (opF x.l g R y))), Ent J (Bn (Dct C.d (kdAt x.l c) D)) := fun hJ w j => by rw [hD]; exact ((hF0 hJ w j).1 hd).1
      have hF2 : ∀ {J : List (World → Prop)} (hJ : Ent J (Bn (opF x.l g R y))), Ent J (Bn (Fwd C.f ids D.length)) := fun hJ w j => by rw [hids, hD]; exact ((hF0 hJ w j).1 hd).2
      have hF3 : ∀ {J : List (World → Prop)} (h : C.iv = true) (hJ : Ent J (Bn (opF x.l g R y))), Ent J (Bn (IvF 126 C.v.1 C.v.2.1 C.v.2.2)) := fun h hJ w j => (hF0 hJ w j).2.2.1 hd h
      have hF4 : ∀ {J : List (World → Prop)} (h : C.rg = true) (hJ : Ent J (Bn (opF x.l g R y))), Ent J (Bn (IvF 130 C.r.1 C.r.2.1 C.r.2.2)) := fun h hJ w j => (hF0 hJ w j).2.2.2 hd h
      refine go ?_
      refine ca (cSRows (x := y.2.2.1) (C := y.2.1) h0 (by exact fun w j => j.1.out.1.out.1)) fun _ _ => ?_
      refine go ?_
      refine mk fn 0 fun b9 => ?_
      refine go ?_
      refine lp (X := Nat × List Nat) (fun (k, L) => k ≤ R.length ∧ L.length = R.length ∧ ∀ j (h : j < L.length) (h2 : j < ids.length), j < k → L[j] = ids[j]) (fun (k, L) => [(1, .pointer (some ⟨b, 0, none⟩)), (2, .bool false), (5, pb y.1), (7, .int .i64 c), (9, .slice (some ⟨b9, 0, none⟩) R.length R.length), (43, .int .i64 x.l.length), (44, .int .i64 c), (56, .int .i64 R.length), (57, .int .i64 k)])
        (fun (k, L) => Ctx (Bn (opF x.l g R y) :: Rs f8 1 q.1 q.2 (secsB (imgS x.l x.g R)) :: J) (sl fn 1 3 (some ⟨b9, 0, none⟩) R.length L :: pt b 30 (caC x) :: H)) (fun y => R.length - y.1) (0, List.replicate R.length 0) ⟨Nat.zero_le _, by simp, fun j _ _ h => absurd h (Nat.not_lt_zero _)⟩ rfl (fun _ h => h) fun (k, L) ⟨hk, hLl, hL⟩ => ?_
      dsimp only at hk hLl hL ⊢
      refine go ?_
      refine ⟨fun g1 => ?_, fun g1 => ?_⟩
      · have hk1 : k < R.length := by omega
        refine go ?_
        refine ca (cSFwd (x := y.2.2.1) (C := y.2.1) h0 hc2 (by exact fun w j => j.1.out.1.out.1) (by exact fun w j => j.1.out.1.out.2.1)) fun _ _ => ?_
        rw [← hC, hd]
        refine go ?_
        refine ca (cFGet (x := C.f) (ids := ids) (m := D.length) (i := k) (by omega) (hI.lt _ (List.getElem_mem _)) (by exact hF2 fun w j => j.1) (by have := hI.bm; omega) (by omega)) fun _ _ => ?_
        refine go ?_
        refine en (k + 1, L.set k ids[k]) ⟨⟨by dsimp only; omega, by dsimp only; rw [List.length_set]; exact hLl, fun j h2 h3 h4 => ?_⟩, by dsimp only; omega⟩ rfl (fun _ h => h)
        dsimp only at h4
        rw [List.getElem_set]
        split
        · next h5 => subst h5; rfl
        · exact hL j (by rw [List.length_set] at h2; exact h2) h3 (by omega)
      · obtain rfl : k = R.length := by omega
        have hLi : L = ids := List.ext_getElem (by omega) fun j h2 h3 => hL j h2 h3 (by omega)
        subst hLi
        refine fz (go ?_)
        refine ca (cSInv (x := y.2.2.1) (C := y.2.1) h0 hc2 (by exact fun w j => j.2.1.out.1.out.1) (by exact fun w j => j.2.1.out.1.out.2.1)) fun _ _ => ?_
        rw [← hC, hd]
        have hkd : kdAt x.l c = 1 ∨ kdAt x.l c = 2 := by rw [kdAt_eq hc1]; exact kdC_or
        cases hiv : C.iv
        case' true =>
          have hv1 : C.v.2.2.map (·.2) = psU L false D.length := by rw [hck.v hd hiv, ← hids, ← hD]; rfl
          refine go ?_
          refine ca (cIvBytes (b := C.v.1) (q := C.v.2.1) (X := C.v.2.2) (ps := psU L false D.length) hv1 hI.iv (by exact fun w j => hT w j.2.2.2) (by exact hF3 hiv fun w j => j.2.1)) fun s1 _ => ?_
          refine go ?_
          refine fzc ?_
          refine ca (cSDict (x := y.2.2.1) (C := y.2.1) h0 hc2 (by exact fun w j => j.2.2.1.out.1.out.1) (by exact fun w j => j.2.2.1.out.1.out.2.1)) fun _ _ => ?_
          rw [← hC, hd]
          refine go ?_
          refine ca (cDLen (x := C.d) (kd := kdAt x.l c) (D := D) (by exact hF1 fun w j => j.2.2.1) hkd) fun _ _ => ?_
          refine go ?_
          refine ca (cImages' (q := s1) (q2 := (some ⟨b9, 0, none⟩, R.length)) (ids := L) (up := false) (m := D.length) hil.symm hI.iv (by omega) (by exact fun w j => j.1) (by exact fun w j => j.2.1)) fun _ _ => ?_
          refine go ?_
          refine prec (C' := Ctx (Rs fn 1 (some ⟨b9, 0, none⟩) R.length L :: Bn (opF x.l g R y) :: Rs f8 1 q.1 q.2 (secsB (imgS x.l x.g R)) :: J) (pt b 30 (caC x) :: H)) (fun w h => h.ent fun w j => j.2) ?_
        case' false =>
          refine go ?_
        all_goals
          refine ca (cSRng (x := y.2.2.1) (C := y.2.1) h0 hc2 (by exact fun w j => j.2.1.out.1.out.1) (by exact fun w j => j.2.1.out.1.out.2.1)) fun _ _ => ?_
          rw [← hC, hd]
          cases hrg : C.rg with
          | false =>
            refine go ?_
            exact en (c + 1) ⟨by omega, by omega⟩ (by simp) (fun w h => h.ent fun w j => j.2)
          | true =>
            have hr1 : C.r.2.2.map (·.2) = psU L true D.length := by rw [hck.r hd hrg, ← hids, ← hD]; rfl
            refine go ?_
            refine ca (cRgBytes (b := C.r.1) (q := C.r.2.1) (X := C.r.2.2) (ps := psU L true D.length) hr1 hI.rg (by exact fun w j => hT w j.2.2.2) (by exact hF4 hrg fun w j => j.2.1)) fun s2 _ => ?_
            refine go ?_
            refine fzc ?_
            refine ca (cSDict (x := y.2.2.1) (C := y.2.1) h0 hc2 (by exact fun w j => j.2.2.1.out.1.out.1) (by exact fun w j => j.2.2.1.out.1.out.2.1)) fun _ _ => ?_
            rw [← hC, hd]
            refine go ?_
            refine ca (cDLen (x := C.d) (kd := kdAt x.l c) (D := D) (by exact hF1 fun w j => j.2.2.1) hkd) fun _ _ => ?_
            refine go ?_
            refine ca (cImages' (q := s2) (q2 := (some ⟨b9, 0, none⟩, R.length)) (ids := L) (up := true) (m := D.length) hil.symm hI.rg (by omega) (by exact fun w j => j.1) (by exact fun w j => j.2.1)) fun _ _ => ?_
            refine go ?_
            exact en (c + 1) ⟨by omega, by omega⟩ (by simp) (fun w h => h.ent fun w j => j.2.2)
  · refine go ?_
    exact rt () trivial rfl (fun _ h => h.rest.ent fun _ j => j.2.2)
end
end
end Go.Proofs.YtimemehaccgmmaaGreatDoor
