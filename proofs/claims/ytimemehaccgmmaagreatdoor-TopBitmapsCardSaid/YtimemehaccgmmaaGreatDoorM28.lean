/-
  Parts of the walks and their plain laws (B7 B8 RQ0 K1 K2 K3 K4 RQ1). No condition.
-/
import Derived.Test.YtimemehaccgmmaaGreatDoorM27
import Derived.Test.YtimemehaccgmmaaGreatDoorM25
namespace Go.Proofs.YtimemehaccgmmaaGreatDoor
open Go.RowKit
set_option maxRecDepth 100000
set_option linter.unusedVariables false
set_option linter.unusedSimpArgs false
noncomputable section
/-- What a dimension's column lays. -/
def dimS (i : Nat) (kd : Int) (c : List Vl) (inv rng srt : Bool) : List (ByteArray × List Int) :=
  [(nmS [100, 105, 99, 116] i, dicB kd (dic c)), (nmS [102, 111, 114, 119, 97, 114, 100] i, fwdB (idsV c) (dic c).length)] ++ ((if inv then [(nmS [105, 110, 118, 101, 114, 116, 101, 100] i, imgs (ivP (idsV c) (dic c).length))] else []) ++
    ((if rng then [(nmS [114, 97, 110, 103, 101, 100] i, imgs (rgP (idsV c) (dic c).length))] else []) ++ (if srt then [(nmS [115, 111, 114, 116, 101, 100] i, srB (sE (idsV c) (idsV c).length))] else [])))
/-- A column of a dimension. -/
structure DOk (x : Mk) (i : Nat) (c : List Vl) : Prop where
  hc : colV (x.R.map (·.2)) i = c
  il : i < x.l.length
  bl : x.l.length ≤ 10
  br : x.R.length ≤ 60
  bw : ∀ r ∈ x.R, i < r.2.length ∧ r.2.length ≤ 10
  v : ∀ v ∈ c, OkV v ∧ v.k = kdC x.l[i] ∧ v.s.size ≤ 100
  bi : x.g.inv.length ≤ 10
  bg : x.g.rng.length ≤ 10
  up : x.g.sort = (i : Int) → c.Pairwise fun x y => ¬ LtV y x
structure MvOk (x : Mk) (v : MkV) : Prop where
  s : v.s.length ≤ 190
  i : v.i.length = x.l.length
  m : v.m.length = x.l.length
theorem AllR.set {α : Type} {f : α → List Value} {sz : Nat} {A : List (Q2 × List α)} {w : World} {a : Q2 × List α} {i : Nat} (h : AllR f sz A w) (k : Rs f sz a.1.1 a.1.2 a.2 w) : AllR f sz (A.set i a) w := fun y hy => by
  rcases List.mem_or_eq_of_mem_set hy with h1 | h1
  · exact h y h1
  · subst h1; exact k
theorem purC {P : Program} {n : Fr} {s : List KI} {L : Env} {C : World → Prop} {Q : Exit → Act → World → Prop} {φ : Prop} (h : ∀ w, C w → φ) (k : φ → HK P n s L C Q) : HK P n s L C Q := fun a w ha hc => k (h w hc) a w ha hc
abbrev dJ (x : Mk) (b : Nat) (z : Nat × Q2) (kd : Int) (D : List Vl) (ids : List Nat) (vi : List (Q2 × List Nat)) (s : List Sec) (J : List (World → Prop)) (L : List Sec) : List (World → Prop) :=
  AllE sF8 (s ++ L) :: Rs fj 1 (some ⟨b, 0, none⟩) ids.length ids :: Bn (Dct z kd D) :: Rs fB 1 x.a.i.1 x.a.i.2 x.g.inv :: Rs fB 1 x.a.r.1 x.a.r.2 x.g.rng :: AllR fj 1 vi :: TabT :: J
abbrev wS (v : MkV) (S : Q2) (L : List Sec) : MkV := { v with S := S, s := v.s ++ L }
section
variable {J : List (World → Prop)} {H : List RC} {ad ad2 : Option Addr} {cap cap2 : Nat} {x : Mk} {v : MkV} {i : Nat} {c : List Vl} {d : Col}
theorem cPutL {s : ByteArray} {q S : Q2} {xs : List Int} {L : List Sec} (hb : v.s.length + L.length ≤ 200) (hJ : Ent J (Rs f8 1 q.1 q.2 xs) := by exact jA) (hJ2 : Ent J (AllE sF8 (v.s ++ L)) := by exact jA) :
    Tr TP 24 [pb x.mb, .string s, .slice q.1 xs.length q.2] (Ctx J (mkH x (wS v S L) H)) (fun _ : Q2 => .tuple #[]) (fun _ => True) (fun S => Ctx (AllE sF8 (v.s ++ (L ++ [⟨s, q, xs⟩])) :: J) (mkH x (wS v S (L ++ [⟨s, q, xs⟩])) H)) := by
  have := cPut (x := x) (v := wS v S L) (J := J) (H := H) (s := s) (q := q) (xs := xs) (by simpa using hb) hJ hJ2
  simp only [wS, List.append_assoc] at this
  exact this
theorem kdC_or : kdC d = 1 ∨ kdC d = 2 := by unfold kdC; split; exact .inr rfl; exact .inl rfl
theorem cKindB : Tr TP 72 [aC d] (Ctx J H) (fun _ : Unit => .int .u8 (kdC d)) (fun _ => True) (fun _ => Ctx J H) := by
  refine en0 Tryz.func72 rfl rfl rfl (go ?_)
  intro b
  refine br (fun h => ?_) fun h => ?_
  · rw [show (2 : Int) = kdC d from (if_pos h).symm]
    exact rt () trivial rfl (fun _ h => h.rest)
  · rw [show (1 : Int) = kdC d from (if_neg h).symm]
    exact rt () trivial rfl (fun _ h => h.rest)
theorem cDFindV {y : Nat × Q2} {kd : Int} {D : List Vl} {w : Vl} (hw : w ∈ D) (hk : kd = 1 ∨ kd = 2) (hb : D.length ≤ 1000) (hp : D.Pairwise LtV) (hJ : Ent J (Bn (Dct y kd D)) := by exact jA) :
    Tr TP 73 [pb y.1, aV w] (Ctx J H) (fun _ : Unit => .tuple #[.int .i64 (idV D w), .bool true]) (fun _ => True) (fun _ => Ctx J H) := by
  obtain ⟨h1, h2⟩ := idV_ok hw
  have := cDFind (x := y) (kd := kd) (D := D) (k := idV D w) (J := J) (H := H) hJ hk hb hp h1
  rw [h2] at this
  exact this
set_option maxHeartbeats 4000000 in
theorem cBDim (h : DOk x i c) (hv : MvOk x v) (hT : Ent J TabT) (hJ : Ent J (Rs fRw 1 x.rq.1 x.rq.2 x.R) := by exact jA) (hJ2 : Ent J (AllR fV 3 x.R) := by exact jA) (hJ3 : Ent J (AllE sF8 v.s) := by exact jA) (hJ4 : Ent J (AllR fj 1 v.i) := by exact jA) (hJ5 : Ent J (Rs fC 2 x.lq.1 x.lq.2 x.l) := by exact jA) (hJ6 : Ent J (Bn (gF' x.g x.a)) := by exact jA) :
    Tr TP 28 [pb x.mb, .int .i64 i] (Ctx J (mkH x v H)) (fun _ : Q2 × List Sec × Q2 => .int .i64 0) (fun r => r.2.1.map Sec.pl = dimS i (kdC (x.l[i]'h.il)) c (hasB x.g.inv i) (hasB x.g.rng i) (decide (x.g.sort = i)))
      (fun r => Ctx (AllE sF8 (v.s ++ r.2.1) :: AllR fj 1 (v.i.set i (r.2.2, idsV c)) :: J) (mkH x { v with S := r.1, s := v.s ++ r.2.1, i := v.i.set i (r.2.2, idsV c), m := v.m.set i (dic c).length } H)) := by
  have hil := h.il
  have hbl := h.bl
  have hbr := h.br
  have hcl : c.length = x.R.length := by rw [← h.hc]; simp [colV]
  have hdl := dic_len c
  have hk := kdC_or (d := x.l[i]'hil)
  refine en0 Tryz.func28 rfl rfl rfl (addJ hJ (addJ (fun w j => hJ2 w j.2) (addJ (fun w j => hJ3 w j.2.2) (addJ (fun w j => hJ4 w j.2.2.2) (addJ (fun w j => hJ5 w j.2.2.2.2) (addJ (fun w j => hJ6 w j.2.2.2.2.2) ?_))))))
  refine purC (fun w h => own_ad (show OwnS fNs 1 w 0 24 v.I.1 v.I.2 v.i from h.at (k := 2) rfl) (i := i) (by have := hv.i; omega)) fun hpI => ?_
  refine purC (fun w h => own_ad (show OwnS fj 1 w 0 3 v.M.1 v.M.2 v.m from h.at (k := 3) rfl) (i := i) (by have := hv.m; omega)) fun hpM => ?_
  refine go ?_
  refine cg (cColumn (by omega) (fun r hr => by have := h.bw r hr; omega)) fun y _ => ?_
  rw [h.hc]
  refine fzc ?_
  rw [← hcl]
  refine cg cKindB fun _ _ => ?_
  refine cg (cDOf (l := c) (hk := hk) (hl := fun v hv => ⟨(h.v v hv).1, (h.v v hv).2.1⟩)) fun z _ => ?_
  refine go ?_
  refine mk fj 0 fun b => ?_
  refine go ?_
  refine lp (X := Nat) (fun k => k ≤ c.length) (fun k => [(0, pb x.mb), (1, .int .i64 i), (4, .int .i64 0), (6, pb z.1), (8, .slice (some ⟨b, 0, none⟩) c.length c.length), (45, .slice (some ⟨y, 0, none⟩) c.length c.length), (46, .int .i64 c.length), (47, .int .i64 k)])
    (fun k => Ctx (Bn (Dct z (kdC (x.l[i]'h.il)) (dic c)) :: Rs fV 3 (some ⟨y, 0, none⟩) c.length c :: Bn (gF' x.g x.a) :: Rs fC 2 x.lq.1 x.lq.2 x.l :: AllR fj 1 v.i :: AllE sF8 v.s :: J) (sl fj 1 3 (some ⟨b, 0, none⟩) c.length ((idsV c).take k ++ List.replicate (c.length - k) 0) :: mkH x v H)) (fun k => c.length - k) 0 (by omega) rfl (fun w h => by
      obtain ⟨h1, h2, h3, h4⟩ := h
      exact ⟨fun w k => (fun j => ⟨j.1, j.2.1, j.2.2.1, j.2.2.2.1, j.2.2.2.2.1, j.2.2.2.2.2.1, j.2.2.2.2.2.2.2.2⟩) (h1 w k), by simpa using h2, by simpa using h3, by simpa using h4⟩) fun k hk1 => ?_
  refine go ?_
  have hil2 : (idsV c).length = c.length := idsV_len c
  have hml : ((idsV c).take k ++ List.replicate (c.length - k) 0).length = c.length := by simp [hil2]; omega
  refine ⟨fun h1 => ?_, fun h1 => ?_⟩
  · have hk2 : k < c.length := by omega
    refine go ?_
    intro p
    refine cg (cDFindV ((dic_mem c _).2 (List.getElem_mem hk2)) hk (by omega) (dic_strict c)) fun _ _ => ?_
    refine go ?_
    have e1 : ((idsV c).take k ++ List.replicate (c.length - k) 0).set k (idV (dic c) c[k]) = (idsV c).take (k + 1) ++ List.replicate (c.length - (k + 1)) 0 := by
      have e0 : (idsV c)[k]'(by omega) = idV (dic c) c[k] := by simp [idsV]
      have e3 : ∀ n, n = (idsV c).length → ((idsV c).take k ++ List.replicate (n - k) 0).set k (idV (dic c) c[k]) = (idsV c).take (k + 1) ++ List.replicate (n - (k + 1)) 0 := fun n hn => by
        subst hn; rw [← e0]; exact take_set (by omega) 0
      exact e3 _ hil2.symm
    exact en (k + 1) (by omega) rfl (fun _ h => by rw [← e1]; exact h.rest)
  · obtain rfl : k = c.length := by omega
    have eE : (idsV c).take c.length ++ List.replicate (c.length - c.length) 0 = idsV c := by rw [List.take_of_length_le (by omega), Nat.sub_self, List.replicate_zero, List.append_nil]
    refine go ?_
    rw [eE, ← hil2]
    refine fzc ?_
    refine cg (cDLen (hk := hk)) fun _ _ => ?_
    refine dIx (i := i) (m := v.i.length) hpI (by have := hv.i; omega) (dA rfl ?_)
    have hvi := hv.i
    have hvm := hv.m
    refine kq (kB 3) rfl (qC0 (oSe0 (k := 2) (i := i) (y := ((some ⟨b, 0, none⟩, (idsV c).length), idsV c)) rfl rfl rfl rfl (by omega) rfl rfl rfl rfl) rfl rfl rfl rfl af (dA rfl ?_))
    refine go ?_
    have hI := idsV_ok (c := c) (by omega)
    have hV : VOk (kdC x.l[i]) (dic c) := ⟨hk, by omega, fun v hv => h.v v ((dic_mem c v).1 hv)⟩
    have h0 : 1 ≤ (dic c).length ∨ idsV c = [] := by
      cases c with
      | nil => exact .inr rfl
      | cons a t => exact .inl (List.length_pos_of_mem ((dic_mem (a :: t) a).2 (List.mem_cons_self ..)))
    have hbi : i < 10 := by omega
    have eN : ∀ l : List UInt8, (ByteArray.mk l.toArray) ++ ((ByteArray.mk #[46]) ++ dig i) = nmS l i := fun l => nmS_app l i
    let Q : Q2 := (some ⟨b, 0, none⟩, (idsV c).length)
    generalize hv1 : ({ v with i := v.i.set i (Q, idsV c), m := v.m.set i (dic c).length } : MkV) = v1
    have hvs : v1.s.length ≤ 190 := by rw [← hv1]; exact hv.s
    refine prec (C := Ctx _ _) (C' := Ctx (dJ x b z (kdC (x.l[i]'hil)) (dic c) (idsV c) (v.i.set i (Q, idsV c)) v1.s J []) (mkH x (wS v1 v1.S []) H)) (fun w h => by
      subst hv1
      obtain ⟨h1, h2, h3, h4⟩ := h
      exact ⟨fun w k => (fun j => ⟨by rw [List.append_nil]; exact j.2.2.2.2.2.2.1, j.1, j.2.1, j.2.2.2.1.out.1, j.2.2.2.1.out.2.1, AllR.set j.2.2.2.2.2.1 j.1, hT w j.2.2.2.2.2.2.2, j.2.2.2.2.2.2.2⟩) (h1 w k), by simp only [mkH, mkC, wS, List.append_nil, List.length_set]; exact h2, by simp only [mkH, mkC, wS, List.append_nil, List.length_set]; exact h3, by simp only [mkH, mkC, wS, List.append_nil, List.length_set]; exact h4⟩) ?_
    refine cg (cItoa hbi) fun _ _ => ?_
    refine hA rfl rfl rfl ((qSa rfl (show 1 + 1 ≤ _ by omega)).os (fun _ _ => trivial)) rfl ?_
    refine go ?_
    refine cg (cDLen (hk := hk)) fun _ _ => ?_
    refine ca (cFOf (ids := idsV c) (m := (dic c).length) (hl := hI.lt) (h0 := h0) (hb := by omega) (hm := by omega)) fun z1 _ => ?_
    refine adv_sound 400 [] rfl ?_
    refine hA rfl rfl rfl ((qSa rfl (show 4 + 2 ≤ _ by omega)).os (fun _ _ => trivial)) rfl ?_
    rw [show (ByteArray.mk #[100, 105, 99, 116]) ++ ((ByteArray.mk #[46]) ++ dig i) = nmS [100, 105, 99, 116] i from eN [100, 105, 99, 116]]
    refine go ?_
    refine cg (cDBytes (h := hV)) fun S1 _ => ?_
    refine fzc ?_
    refine ca (cPutL (v := v1) (L := []) (by simp; omega)) fun S2 _ => ?_
    refine adv_sound 400 [] rfl ?_
    refine hA rfl rfl rfl ((qSa rfl (show 7 + 2 ≤ _ by omega)).os (fun _ _ => trivial)) rfl ?_
    rw [show (ByteArray.mk #[102, 111, 114, 119, 97, 114, 100]) ++ ((ByteArray.mk #[46]) ++ dig i) = nmS [102, 111, 114, 119, 97, 114, 100] i from eN [102, 111, 114, 119, 97, 114, 100]]
    refine go ?_
    refine cg (cFBytes (x := z1) (ids := idsV c) (m := (dic c).length) (hm := by omega) (hb := by omega)) fun S3 _ => ?_
    refine fzc ?_
    refine ca (cPutL (v := v1) (L := [] ++ [_]) (by simp; omega)) fun S4 _ => ?_
    generalize hL0 : ([] ++ [⟨nmS [100, 105, 99, 116] i, S1, dicB (kdC (x.l[i]'hil)) (dic c)⟩] ++ [⟨nmS [102, 111, 114, 119, 97, 114, 100] i, S3, fwdB (idsV c) (dic c).length⟩] : List Sec) = L0
    have hL1 : L0.map Sec.pl = [(nmS [100, 105, 99, 116] i, dicB (kdC (x.l[i]'hil)) (dic c)), (nmS [102, 111, 114, 119, 97, 114, 100] i, fwdB (idsV c) (dic c).length)] := by rw [← hL0]; rfl
    refine pre (C := Ctx _ _) (C' := Ctx (dJ x b z (kdC (x.l[i]'hil)) (dic c) (idsV c) (v.i.set i (Q, idsV c)) v1.s J L0) (mkH x (wS v1 S4 L0) H)) (fun w h => by
      obtain ⟨h1, h2, h3, h4⟩ := h
      exact ⟨fun w k => (fun j => ⟨j.1, j.2.2.2.2.2.2⟩) (h1 w k), h2, h3, h4⟩) ?_
    refine go ?_
    refine cg (cHasF (fl := x.g.inv) (hb := by have := h.bi; omega)) fun _ _ => ?_
    have hl1 : L0.map Sec.pl = [_, _] := hL1
    have hl1' : (L0.map Sec.pl).length = 2 := by rw [hL1]; rfl
    refine ct2 (X := Q2 × List Sec) (fun r => r.2.map Sec.pl = L0.map Sec.pl ++ (if hasB x.g.inv i then [(nmS [105, 110, 118, 101, 114, 116, 101, 100] i, imgs (ivP (idsV c) (dic c).length))] else [])) (fun _ => [(0, pb x.mb), (1, .int .i64 i), (4, .int .i64 0), (6, pb z.1), (8, .slice (some ⟨b, 0, none⟩) (idsV c).length (idsV c).length), (11, .string ((ByteArray.mk #[46]) ++ dig i))]) (fun r => Ctx (dJ x b z (kdC (x.l[i]'hil)) (dic c) (idsV c) (v.i.set i (Q, idsV c)) v1.s J r.2) (mkH x (wS v1 r.1 r.2) H)) ⟨fun h1 => ?_, fun h1 => ?_⟩ fun r1 hr1 => ?_
    · refine go ?_
      refine cg (cDLen (hk := hk)) fun _ _ => ?_
      refine ca (cIvOf (ids := idsV c) (m := (dic c).length) (by omega) (by omega) hI.lt hI.all (hT := jA)) fun y1 hy1 => ?_
      refine adv_sound 400 [] rfl ?_
      refine hA rfl rfl rfl ((qSa rfl (show 8 + 2 ≤ _ by omega)).os (fun _ _ => trivial)) rfl ?_
      rw [show (ByteArray.mk #[105, 110, 118, 101, 114, 116, 101, 100]) ++ ((ByteArray.mk #[46]) ++ dig i) = nmS [105, 110, 118, 101, 114, 116, 101, 100] i from eN [105, 110, 118, 101, 114, 116, 101, 100]]
      refine go ?_
      refine cg (cIvBytes (ps := ivP (idsV c) (dic c).length) (hX := hy1) (h := hI.iv) (hT := jA)) fun u1 _ => ?_
      refine fzc ?_
      refine ca (cPutL (v := v1) (L := L0) (by have := congrArg List.length hl1; simp at this; omega)) fun S1 _ => ?_
      refine adv_sound 400 [] rfl ?_
      exact en (S1, L0 ++ [⟨nmS [105, 110, 118, 101, 114, 116, 101, 100] i, u1, imgs (ivP (idsV c) (dic c).length)⟩]) (by rw [h1]; simp [Sec.pl]) rfl (fun w h => by
        obtain ⟨h1, h2, h3, h4⟩ := h
        exact ⟨fun w k => (fun j => ⟨j.1, j.2.2.2.2⟩) (h1 w k), h2, h3, h4⟩)
    · refine adv_sound 400 [] rfl ?_
      exact en (S4, L0) (by rw [h1]; simp) rfl (fun _ h => h)
    have hl0 : L0.length = 2 := by have := congrArg List.length hL1; simpa using this
    have hb1 : r1.2.length ≤ 3 := by
      have := congrArg List.length hr1
      rw [List.length_map, List.length_append, List.length_map] at this
      split at this <;> simp at this <;> omega
    refine go ?_
    refine cg (cHasF (fl := x.g.rng) (hb := by have := h.bg; omega)) fun _ _ => ?_
    refine ct2 (X := Q2 × List Sec) (fun r => r.2.map Sec.pl = r1.2.map Sec.pl ++ (if hasB x.g.rng i then [(nmS [114, 97, 110, 103, 101, 100] i, imgs (rgP (idsV c) (dic c).length))] else [])) (fun _ => [(0, pb x.mb), (1, .int .i64 i), (4, .int .i64 0), (6, pb z.1), (8, .slice (some ⟨b, 0, none⟩) (idsV c).length (idsV c).length), (11, .string ((ByteArray.mk #[46]) ++ dig i))]) (fun r => Ctx (dJ x b z (kdC (x.l[i]'hil)) (dic c) (idsV c) (v.i.set i (Q, idsV c)) v1.s J r.2) (mkH x (wS v1 r.1 r.2) H)) ⟨fun h1 => ?_, fun h1 => ?_⟩ fun r2 hr2 => ?_
    · refine go ?_
      refine cg (cDLen (hk := hk)) fun _ _ => ?_
      refine ca (cRgOf (ids := idsV c) (m := (dic c).length) (by omega) (by omega) hI.lt hI.all (hT := jA)) fun y2 hy2 => ?_
      refine adv_sound 400 [] rfl ?_
      refine hA rfl rfl rfl ((qSa rfl (show 6 + 2 ≤ _ by omega)).os (fun _ _ => trivial)) rfl ?_
      rw [show (ByteArray.mk #[114, 97, 110, 103, 101, 100]) ++ ((ByteArray.mk #[46]) ++ dig i) = nmS [114, 97, 110, 103, 101, 100] i from eN [114, 97, 110, 103, 101, 100]]
      refine go ?_
      refine cg (cRgBytes (ps := rgP (idsV c) (dic c).length) (hX := hy2) (h := hI.rg) (hT := jA)) fun u2 _ => ?_
      refine fzc ?_
      refine ca (cPutL (v := v1) (L := r1.2) (by omega)) fun S2 _ => ?_
      refine adv_sound 400 [] rfl ?_
      exact en (S2, r1.2 ++ [⟨nmS [114, 97, 110, 103, 101, 100] i, u2, imgs (rgP (idsV c) (dic c).length)⟩]) (by simp [h1, Sec.pl]) rfl (fun w h => by
        obtain ⟨h1, h2, h3, h4⟩ := h
        exact ⟨fun w k => (fun j => ⟨j.1, j.2.2.2.2⟩) (h1 w k), h2, h3, h4⟩)
    · refine adv_sound 400 [] rfl ?_
      exact en (r1.1, r1.2) (by simp [h1]) rfl (fun _ h => h)
    have hb2 : r2.2.length ≤ 4 := by
      have := congrArg List.length hr2
      rw [List.length_map, List.length_append, List.length_map] at this
      split at this <;> simp at this <;> omega
    refine go ?_
    refine ct2 (X := Q2 × List Sec) (fun r => r.2.map Sec.pl = r2.2.map Sec.pl ++ (if decide (x.g.sort = (i : Int)) then [(nmS [115, 111, 114, 116, 101, 100] i, srB (sE (idsV c) (idsV c).length))] else [])) (fun _ => [(0, pb x.mb), (1, .int .i64 i), (4, .int .i64 0), (6, pb z.1), (8, .slice (some ⟨b, 0, none⟩) (idsV c).length (idsV c).length), (11, .string ((ByteArray.mk #[46]) ++ dig i))]) (fun r => Ctx (dJ x b z (kdC (x.l[i]'hil)) (dic c) (idsV c) (v.i.set i (Q, idsV c)) v1.s J r.2) (mkH x (wS v1 r.1 r.2) H)) ⟨fun h1 => ?_, fun h1 => ?_⟩ fun r3 hr3 => ?_
    · refine go ?_
      refine cg (cDLen (hk := hk)) fun _ _ => ?_
      refine ca (cSrOf (ids := idsV c) (m := (dic c).length) (h := idsV_up (by omega) (h.up h1))) fun y3 hy3 => ?_
      refine adv_sound 400 [] rfl ?_
      refine hA rfl rfl rfl ((qSa rfl (show 6 + 2 ≤ _ by omega)).os (fun _ _ => trivial)) rfl ?_
      rw [show (ByteArray.mk #[115, 111, 114, 116, 101, 100]) ++ ((ByteArray.mk #[46]) ++ dig i) = nmS [115, 111, 114, 116, 101, 100] i from eN [115, 111, 114, 116, 101, 100]]
      refine go ?_
      refine cg (cSrBytes (h := (idsV_up (by omega) (h.up h1)).ends)) fun u3 _ => ?_
      refine ca (cPutL (v := v1) (L := r2.2) (by omega)) fun S3 _ => ?_
      refine adv_sound 400 [] rfl ?_
      exact en (S3, r2.2 ++ [⟨nmS [115, 111, 114, 116, 101, 100] i, u3, srB (sE (idsV c) (idsV c).length)⟩]) (by simp [h1, Sec.pl]) rfl (fun w h => by
        obtain ⟨h1, h2, h3, h4⟩ := h
        exact ⟨fun w k => (fun j => ⟨j.1, j.2.2.2.2⟩) (h1 w k), h2, h3, h4⟩)
    · refine adv_sound 400 [] rfl ?_
      exact en (r2.1, r2.2) (by simp [h1]) rfl (fun _ h => h)
    have hb3 : r3.2.length ≤ 5 := by
      have := congrArg List.length hr3
      rw [List.length_map, List.length_append, List.length_map] at this
      split at this <;> simp at this <;> omega
    refine go ?_
    exact rt (r3.1, r3.2, Q) (by show List.map Sec.pl r3.2 = _; unfold dimS; rw [hr3, hr2, hr1, hL1, List.append_assoc, List.append_assoc]) rfl (fun w h => by
      subst hv1
      obtain ⟨h1, h2, h3, h4⟩ := h
      exact ⟨fun w k => (fun j => ⟨j.1, j.2.2.2.2.2.1, j.2.2.2.2.2.2.2⟩) (h1 w k), h2, h3, h4⟩)
end
end
end Go.Proofs.YtimemehaccgmmaaGreatDoor
namespace Go.Proofs.YtimemehaccgmmaaGreatDoor
open Go.RowKit
set_option maxRecDepth 100000
set_option linter.unusedVariables false
set_option linter.unusedSimpArgs false
noncomputable section
section
variable {J : List (World → Prop)} {H : List RC} {x : Mk} {v : MkV} {p c1 c2 c3 : Nat} {qA qB : Q2} {A : List (Q2 × List Nat)} {B : List Nat}
/-- What lies before a column is taken along. -/
abbrev tkH (x : Mk) (v : MkV) (c1 c3 : Nat) (qA qB : Q2) (A : List (Q2 × List Nat)) (B : List Nat) (H : List RC) : List RC :=
  sl fNs 1 24 qA.1 qA.2 A :: sl fj 1 3 qB.1 qB.2 B :: sl fNs 1 24 v.I.1 v.I.2 v.i :: sl fj 1 3 v.M.1 v.M.2 v.m :: pt x.mb 81 (mkC x v) :: pt c1 77 [.slice qA.1 A.length qA.2] :: pt c3 24 [.slice qB.1 B.length qB.2] :: H
set_option maxHeartbeats 4000000 in
theorem cTake (hp : p < v.i.length) (hm : p < v.m.length) (hA1 : A.length ≤ 100) (hB1 : B.length ≤ 100) (hJ : Ent J (pt c2 76 [pb x.mb]).A := by exact jA) :
    Tr TP 29 [.int .i64 p, pb c1, pb c2, pb c3] (Ctx J (tkH x v c1 c3 qA qB A B H)) (fun _ : Q2 × Q2 => .tuple #[]) (fun _ => True) (fun r => Ctx J (tkH x v c1 c3 r.1 r.2 (A ++ [v.i[p]]) (B ++ [v.m[p]]) H)) := by
  refine en0 Tryz.func29 rfl rfl rfl (addJ hJ (go ?_))
  refine kq (kB 1) rfl (qN (qLd rfl rfl rfl) (fun _ h => h.at (k := 6) rfl) rfl rfl rfl (dA rfl ?_))
  refine go ?_
  refine par2 (f := fNs) (g := fj) 8 9 18 19 v.i[p] v.m[p] (fun q1 q2 x1 x2 => ?_) (mkCn rfl rfl rfl rfl rfl rfl rfl rfl rfl rfl rfl rfl rfl rfl rfl (fun _ => rfl) rfl rfl rfl rfl rfl rfl (by omega)) (mkCn rfl rfl rfl rfl rfl rfl rfl rfl rfl rfl rfl rfl rfl rfl rfl (fun _ => rfl) rfl rfl rfl rfl rfl rfl (by omega)) (hD := by
    intro w j h
    repeat' (first | exact trivial | exact h.1 | exact h.2.1 | exact h.2.2.1 | exact h.2.2.2.1 | exact h.2.2.2.2.1 | exact j.1 | refine And.intro ?_ ?_))
  refine go ?_
  refine hA0 rfl rfl (oSt (k := 6) rfl rfl rfl rfl rfl rfl rfl rfl) rfl ?_
  refine adv_sound 400 [] rfl ?_
  refine rtE (q1, q2) trivial rfl ?_
  intro w h
  obtain ⟨h1, h2, h3, h4⟩ := h
  exact ⟨fun w k => (h1 w k).2, h2, h3, h4⟩
end
end
end Go.Proofs.YtimemehaccgmmaaGreatDoor
namespace Go.Proofs.YtimemehaccgmmaaGreatDoor
open Go.RowKit
set_option maxRecDepth 100000
set_option linter.unusedVariables false
set_option linter.unusedSimpArgs false
noncomputable section
/-- A figure of a metric: its sum, its least, its greatest. -/
structure Fig where
  s : Int
  l : Int
  h : Int
def fFig (x : Fig) : List Value := [.int .i64 x.s, .int .i64 x.l, .int .i64 x.h]
instance : Lies fFig 3 := ⟨fun _ => rfl, fun x v h => by simp [fFig] at h; rcases h with rfl | rfl | rfl <;> rfl, by decide⟩
/-- A record of the star: eight places, how many, where its figures lie, its figures. -/
structure Rec where
  a : Nat → Int
  n : Int
  q : Q2
  f : List Fig
def fRec (x : Rec) : List Value := [.int .i64 (x.a 0), .int .i64 (x.a 1), .int .i64 (x.a 2), .int .i64 (x.a 3), .int .i64 (x.a 4), .int .i64 (x.a 5), .int .i64 (x.a 6), .int .i64 (x.a 7), .int .i64 x.n, .slice x.q.1 x.f.length x.q.2]
instance : Lies fRec 10 := ⟨fun _ => rfl, fun x v h => by simp [fRec] at h; rcases h with rfl | rfl | rfl | rfl | rfl | rfl | rfl | rfl | rfl | rfl <;> rfl, by decide⟩
abbrev vRec (x : Rec) : Value := .agg #[.int .i64 (x.a 0), .int .i64 (x.a 1), .int .i64 (x.a 2), .int .i64 (x.a 3), .int .i64 (x.a 4), .int .i64 (x.a 5), .int .i64 (x.a 6), .int .i64 (x.a 7), .int .i64 x.n, .slice x.q.1 x.f.length x.q.2]
end
end Go.Proofs.YtimemehaccgmmaaGreatDoor
namespace Go.Proofs.YtimemehaccgmmaaGreatDoor
open Go.RowKit
set_option maxRecDepth 100000
set_option linter.unusedVariables false
set_option linter.unusedSimpArgs false
noncomputable section
/-- How two lists of places stand. -/
def cmI (x y : Int) : Int := if x < y then -1 else if x > y then 1 else 0
def cmL : List Int → List Int → Int
  | [], [] => 0
  | [], _ :: _ => -1
  | _ :: _, [] => 1
  | x :: l, y :: r => if cmI x y = 0 then cmL l r else cmI x y
section
variable {J : List (World → Prop)} {H : List RC} {ad ad2 : Option Addr} {cap cap2 : Nat} {x y : Int} {xs ys : List Int}
theorem cNanI : Tr TP 274 [.int .i64 x] (Ctx J H) (fun _ : Unit => .bool false) (fun _ => True) (fun _ => Ctx J H) := by
  refine en0 Tryz.func274 rfl rfl rfl (go ?_)
  rw [show decide (x ≠ x) = false by simp]
  exact rt () trivial rfl (fun _ h => h)
theorem cCmpI : Tr TP 221 [.int .i64 x, .int .i64 y] (Ctx J H) (fun _ : Unit => .int .i64 (cmI x y)) (fun _ => True) (fun _ => Ctx J H) := by
  refine en0 Tryz.func221 rfl rfl rfl (go ?_)
  refine cg cNanI fun _ _ => ?_
  refine cg cNanI fun _ _ => ?_
  refine ⟨fun h1 => ?_, fun h1 => ?_⟩
  · refine go ?_
    rw [show (-1 : Int) = cmI x y by unfold cmI; rw [if_pos h1]]
    exact rt () trivial rfl (fun _ h => h)
  · refine go ?_
    refine ⟨fun h2 => ?_, fun h2 => ?_⟩
    · refine go ?_
      rw [show (1 : Int) = cmI x y by unfold cmI; rw [if_neg h1, if_pos h2]]
      exact rt () trivial rfl (fun _ h => h)
    · refine go ?_
      rw [show (0 : Int) = cmI x y by unfold cmI; rw [if_neg h1, if_neg h2]]
      exact rt () trivial rfl (fun _ h => h)
end
end
end Go.Proofs.YtimemehaccgmmaaGreatDoor
namespace Go.Proofs.YtimemehaccgmmaaGreatDoor
open Go.RowKit
set_option maxRecDepth 100000
set_option linter.unusedVariables false
set_option linter.unusedSimpArgs false
noncomputable section
section
variable {P : Program} {n : Fr} {ops : Array Oper} {o : Oper} {l : List Oper} {s : List KI} {L : Env} {C : World → Prop} {Q : Exit → Act → World → Prop}
/-- A slice of a whole array. -/
theorem qSlA {t : TypeId} {x : Operand} {b ofs len sz0 : Nat} (ho : o.op = .slice t x none none none) (hx : ev L x = some (.pointer (some ⟨b, ofs, none⟩))) (ht : esA P t = some (len, sz0)) (hl : 0 < len) :
    OQ P o L none (.slice (some ⟨b, ofs, none⟩) len len) := by
  obtain ⟨e, inf, ht2, hi, rfl⟩ := esA_eq ht
  refine ⟨by rw [ho]; rfl, fun ρ w hρ _ => ?_⟩
  have e3 : (Instr.sliceBounds false len len none none none).run P w = .ok (0, len, len) w := by
    unfold Instr.sliceBounds
    simp
  have hne : ¬ len = 0 := by omega
  simp only [execOp, ho, hρ _ _ hx, Instr.sliceAt, Sem.run_bind, run_und ht2, Result.andThen_ok, Option.map_none, e3]
  simp [Instr.sureAddr, sizeOf, typeInfo, hi, e3, hne, add_eq]
end
def Rec.ids (x : Rec) : List Int := [x.a 0, x.a 1, x.a 2, x.a 3, x.a 4, x.a 5, x.a 6, x.a 7]
theorem rec_ids {x : Rec} {b : Nat} {w : World} (h : (pt b 139 (fRec x)).A w) : Rs fi 1 (some ⟨b, 0, none⟩) 8 x.ids w := by
  refine ⟨by simp [Rec.ids], by omega, fun i hi => ⟨b, 0, rfl, fun j hj => ?_⟩⟩
  obtain rfl : j = 0 := by omega
  have h1 : w.heap[b]? = some (.cells (fRec x).toArray 139 (0, 0)) := h
  have hi8 : i < 8 := by simpa [Rec.ids] using hi
  unfold World.cell?
  rw [h1]
  show (fRec x).toArray[0 + i * 1 + 0]? = _
  rcases i with _ | _ | _ | _ | _ | _ | _ | _ | i <;> first | rfl | omega
section
variable {J : List (World → Prop)} {H : List RC} {ad ad2 : Option Addr} {cap cap2 : Nat} {x y : Rec} {xs ys : List Int}
theorem cmL_drop {k : Nat} (h : k < xs.length) (h2 : k < ys.length) : cmL (xs.drop k) (ys.drop k) = if cmI xs[k] ys[k] = 0 then cmL (xs.drop (k + 1)) (ys.drop (k + 1)) else cmI xs[k] ys[k] := by
  rw [List.drop_eq_getElem_cons h, List.drop_eq_getElem_cons h2]; rfl
theorem cCmpL (hb : xs.length ≤ 1000) (hb2 : ys.length ≤ 1000) (hJ : Ent J (Rs fi 1 ad cap xs) := by exact jA) (hJ2 : Ent J (Rs fi 1 ad2 cap2 ys) := by exact jA) :
    Tr TP 156 [.slice ad xs.length cap, .slice ad2 ys.length cap2] (Ctx J H) (fun _ : Unit => .int .i64 (cmL xs ys)) (fun _ => True) (fun _ => Ctx J H) := by
  refine en0 Tryz.func156 rfl rfl rfl (addJ hJ (addJ (fun w j => hJ2 w j.2) (go ?_)))
  refine lp (X := Nat) (fun k => k ≤ xs.length ∧ k ≤ ys.length ∧ cmL xs ys = cmL (xs.drop k) (ys.drop k)) (fun k => [(0, .slice ad xs.length cap), (1, .slice ad2 ys.length cap2), (9, .slice ad xs.length cap), (10, .int .i64 xs.length), (11, .int .i64 k)])
    (fun k => Ctx (Rs fi 1 ad2 cap2 ys :: Rs fi 1 ad cap xs :: J) H) (fun k => xs.length - k) 0 ⟨by omega, by omega, rfl⟩ rfl (fun _ h => h) fun k ⟨hk, hk2, he⟩ => ?_
  refine go ?_
  refine ⟨fun h1 => ?_, fun h1 => ?_⟩
  · have hk1 : k < xs.length := by omega
    refine go ?_
    refine ⟨fun h2 => ?_, fun h2 => ?_⟩
    · refine go ?_
      have : ys.drop k = [] := List.drop_of_length_le (by omega)
      rw [this, List.drop_eq_getElem_cons hk1] at he
      rw [show (1 : Int) = cmL xs ys from he.symm]
      exact rt () trivial rfl (fun _ h => h.ent fun _ j => j.2.2)
    · have hk3 : k < ys.length := by omega
      refine go ?_
      refine cg cCmpI fun _ _ => ?_
      rw [cmL_drop hk1 hk3] at he
      refine ⟨fun h3 => ?_, fun h3 => ?_⟩
      · rw [if_neg h3] at he
        refine go ?_
        rw [← he]
        exact rt () trivial rfl (fun _ h => h.ent fun _ j => j.2.2)
      · rw [if_pos (by simpa using h3)] at he
        refine go ?_
        exact en (k + 1) ⟨⟨by omega, by omega, he⟩, by omega⟩ rfl (fun _ h => h)
  · obtain rfl : k = xs.length := by omega
    rw [List.drop_length] at he
    refine go ?_
    refine ⟨fun h2 => ?_, fun h2 => ?_⟩
    · refine go ?_
      rw [List.drop_eq_getElem_cons (show xs.length < ys.length by omega)] at he
      rw [show (-1 : Int) = cmL xs ys from he.symm]
      exact rt () trivial rfl (fun _ h => h.ent fun _ j => j.2.2)
    · refine go ?_
      rw [List.drop_of_length_le (by omega)] at he
      rw [show (0 : Int) = cmL xs ys from he.symm]
      exact rt () trivial rfl (fun _ h => h.ent fun _ j => j.2.2)
/-- Records by their places. -/
def ltK (x y : Rec) : Bool := decide (cmL x.ids y.ids < 0)
theorem cCmpRec : CmT 155 [] J (fun _ => True) vRec ltK := by
  intro J' H' hJ' x y _ _
  refine en0 Tryz.func155 rfl rfl rfl (go ?_)
  intro b1 b2
  refine fzpd (fzpd ?_)
  refine kq (kB 10) rfl (qN (qSlA rfl rfl rfl (by decide)) (fun _ _ => trivial) rfl rfl rfl (dA rfl ?_))
  refine kq (kB 10) rfl (qN (qSlA rfl rfl rfl (by decide)) (fun _ _ => trivial) rfl rfl rfl (dA rfl ?_))
  refine go ?_
  refine cg (cCmpL (xs := x.ids) (ys := y.ids) (ad := some ⟨b1, 0, none⟩) (ad2 := some ⟨b2, 0, none⟩) (by simp [Rec.ids]) (by simp [Rec.ids]) (hJ := fun w j => rec_ids (x := x) (b := b1) j.1) (hJ2 := fun w j => rec_ids (x := y) (b := b2) j.2.1)) fun _ _ => ?_
  refine go ?_
  exact rt (cmL x.ids y.ids) (by simp [ltK]) rfl (fun _ h => h.ent fun _ j => j.2.2)
end
end
end Go.Proofs.YtimemehaccgmmaaGreatDoor
namespace Go.Proofs.YtimemehaccgmmaaGreatDoor
open Go.RowKit
set_option maxRecDepth 100000
set_option linter.unusedVariables false
set_option linter.unusedSimpArgs false
noncomputable section
theorem rs_none {α : Type} {f : α → List Value} {sz cap : Nat} {xs : List α} {w : World} (h : Rs f sz none cap xs w) : xs = [] := by
  obtain ⟨-, -, h2⟩ := h
  cases xs with
  | nil => rfl
  | cons a l => obtain ⟨b, off, e, -⟩ := h2 0 (by simp); cases e
section
variable {J : List (World → Prop)} {H : List RC} {ad ad2 : Option Addr} {cap cap2 : Nat} {xs : List Fig} {R : List Rec}
theorem cClF (hb : xs.length ≤ 1000) (hJ : Ent J (Rs fFig 3 ad cap xs) := by exact jA) : Tr TP 157 [.slice ad xs.length cap] (Ctx J H) (fun q : Q2 => .slice q.1 xs.length q.2) (fun _ => True) (fun q => Ctx J (sl fFig 3 142 q.1 q.2 xs :: H)) := by
  refine en0 Tryz.func157 rfl rfl rfl (addJ hJ ?_)
  cases ad with
  | none =>
    refine purC (fun w h => rs_none (h.js).1) fun e => ?_
    subst e
    refine go ?_
    exact rt (none, 0) trivial rfl (fun w h => Ctx.nl (h.ent fun _ j => j.2))
  | some a =>
    refine go ?_
    intro b
    refine p2s (f := fFig) [] rfl (by simp) (go ?_)
    refine hx rfl rfl rfl (oApJ (k := 0) (f := fFig) (ys := xs) rfl je0 rfl rfl rfl rfl rfl rfl rfl (by simp; omega) (fun _ => rfl)) ?_
    intro q
    refine go ?_
    exact rt q trivial rfl (fun w h => h.ent fun _ j => j.2)
theorem cClR (hb : R.length ≤ 1000) (hJ : Ent J (Rs fRec 10 ad cap R) := by exact jA) : Tr TP 158 [.slice ad R.length cap] (Ctx J H) (fun q : Q2 => .slice q.1 R.length q.2) (fun _ => True) (fun q => Ctx J (sl fRec 10 139 q.1 q.2 R :: H)) := by
  refine en0 Tryz.func158 rfl rfl rfl (addJ hJ ?_)
  cases ad with
  | none =>
    refine purC (fun w h => rs_none (h.js).1) fun e => ?_
    subst e
    refine go ?_
    exact rt (none, 0) trivial rfl (fun w h => Ctx.nl (h.ent fun _ j => j.2))
  | some a =>
    refine go ?_
    intro b
    refine p2s (f := fRec) [] rfl (by simp) (go ?_)
    refine hx rfl rfl rfl (oApJ (k := 0) (f := fRec) (ys := R) rfl je0 rfl rfl rfl rfl rfl rfl rfl (by simp; omega) (fun _ => rfl)) ?_
    intro q
    refine go ?_
    exact rt q trivial rfl (fun w h => h.ent fun _ j => j.2)
end
end
end Go.Proofs.YtimemehaccgmmaaGreatDoor
namespace Go.Proofs.YtimemehaccgmmaaGreatDoor
open Go.RowKit
set_option maxRecDepth 100000
set_option linter.unusedVariables false
set_option linter.unusedSimpArgs false
noncomputable section
/-- Arrays of eight numbers are alike where their cells are. -/
theorem part_i {cs : Array Value} {k : Nat} {v : Value} (h : cs[k]? = some v) (w : World) : (part 3 cs k).run TP w = .ok v w := by
  have e1 : (isAgg 3).run TP w = .ok false w := by simp [isAgg, run_und (show TP.underlying 3 = some (.int .i64) from rfl)]
  unfold part
  rw [Sem.run_bind, e1]
  simp [h]
theorem eqI_run (d : Nat) (a b : Int) (w : World) : (Op.equalIn (d + 1) 3 (.int .i64 a) (.int .i64 b)).run TP w = .ok (a == b) w := by
  simp [Op.equalIn, run_und (show TP.underlying 3 = some (.int .i64) from rfl)]
def eq8 (a b : Nat → Int) : Bool := ((a 0 == b 0) && ((a 1 == b 1) && ((a 2 == b 2) && ((a 3 == b 3) && ((a 4 == b 4) && ((a 5 == b 5) && ((a 6 == b 6) && (a 7 == b 7))))))))
theorem loop_eq (d : Nat) (A B : Array Value) (a b : Nat → Int) (w : World) : ∀ (l : List Nat), (∀ i ∈ l, A[i]? = some (.int .i64 (a i)) ∧ B[i]? = some (.int .i64 (b i))) →
    Sem.run TP (forIn l ((none, ()) : Option Bool × Unit) fun i __s => do
            let __do_lift ← part 3 A i
            let __do_lift_1 ← part 3 B i
            let __do_lift ← Op.equalIn (d + 1) 3 __do_lift __do_lift_1
            if __do_lift = false then pure (ForInStep.done (some false, ())) else pure (ForInStep.yield (none, ()))) w = .ok (if l.all (fun i => a i == b i) then (none, ()) else (some false, ())) w
  | [], _ => by simp
  | i :: l, h => by
    obtain ⟨h1, h2⟩ := h i (List.mem_cons_self ..)
    have ih := loop_eq d A B a b w l fun j hj => h j (List.mem_cons_of_mem _ hj)
    rw [List.forIn_cons, Sem.run_bind, Sem.run_bind, part_i h1 w, Result.andThen_ok, Sem.run_bind, part_i h2 w, Result.andThen_ok, Sem.run_bind, eqI_run, Result.andThen_ok]
    cases hc : (a i == b i)
    · simp [hc]
    · simp only [Bool.true_eq_false, if_false]
      simp only [Sem.run_pure, Result.andThen_ok, List.all_cons, hc, Bool.true_and]
      exact ih
theorem eqA_run (d : Nat) (a b : Nat → Int) (w : World) :
    (Op.equalIn (d + 2) 136 (.agg #[.int .i64 (a 0), .int .i64 (a 1), .int .i64 (a 2), .int .i64 (a 3), .int .i64 (a 4), .int .i64 (a 5), .int .i64 (a 6), .int .i64 (a 7)]) (.agg #[.int .i64 (b 0), .int .i64 (b 1), .int .i64 (b 2), .int .i64 (b 3), .int .i64 (b 4), .int .i64 (b 5), .int .i64 (b 6), .int .i64 (b 7)])).run TP w = .ok (eq8 a b) w := by
  have hz : (sizeOf 3).run TP w = .ok 1 w := by
    obtain ⟨i, hi, he⟩ : ∃ i, TP.info? 3 = some i ∧ i.size = 1 := ⟨_, rfl, rfl⟩
    simp [sizeOf, typeInfo, hi, he]
  rw [Op.equalIn]
  simp only [Sem.run_bind, run_und (show TP.underlying 136 = some (.array 8 3) from rfl), Result.andThen_ok, hz]
  have e8 : List.range' 0 8 = [0, 1, 2, 3, 4, 5, 6, 7] := rfl
  have key := loop_eq d (#[.int .i64 (a 0), .int .i64 (a 1), .int .i64 (a 2), .int .i64 (a 3), .int .i64 (a 4), .int .i64 (a 5), .int .i64 (a 6), .int .i64 (a 7)] : Array Value) (#[.int .i64 (b 0), .int .i64 (b 1), .int .i64 (b 2), .int .i64 (b 3), .int .i64 (b 4), .int .i64 (b 5), .int .i64 (b 6), .int .i64 (b 7)] : Array Value) a b w [0, 1, 2, 3, 4, 5, 6, 7] (by
    intro i hi
    simp only [List.mem_cons, List.not_mem_nil, or_false] at hi
    rcases hi with rfl | rfl | rfl | rfl | rfl | rfl | rfl | rfl <;> exact ⟨rfl, rfl⟩)
  generalize (#[.int .i64 (a 0), .int .i64 (a 1), .int .i64 (a 2), .int .i64 (a 3), .int .i64 (a 4), .int .i64 (a 5), .int .i64 (a 6), .int .i64 (a 7)] : Array Value) = A at *
  generalize (#[.int .i64 (b 0), .int .i64 (b 1), .int .i64 (b 2), .int .i64 (b 3), .int .i64 (b 4), .int .i64 (b 5), .int .i64 (b 6), .int .i64 (b 7)] : Array Value) = B at *
  simp
  rw [e8, key]
  have e9 : eq8 a b = [0, 1, 2, 3, 4, 5, 6, 7].all (fun i => a i == b i) := by simp [eq8]
  rw [e9]
  cases [0, 1, 2, 3, 4, 5, 6, 7].all (fun i => a i == b i) <;> simp
end
end Go.Proofs.YtimemehaccgmmaaGreatDoor
namespace Go.Proofs.YtimemehaccgmmaaGreatDoor
open Go.RowKit
set_option maxRecDepth 100000
set_option linter.unusedVariables false
set_option linter.unusedSimpArgs false
noncomputable section
section
variable {J : List (World → Prop)} {H : List RC} {ad : Option Addr} {cap g a b : Nat} {cb : List Value} {S : Rec → Prop} {lt : Rec → Rec → Bool}
set_option maxHeartbeats 8000000 in
theorem insRec (hw : Swo lt) (hc : CmT g cb J S vRec lt) (A P T M : List Rec) (hM : M = P ++ (A ++ T)) (ha : a = P.length) (hb : b = a + A.length) (hS : ∀ x ∈ A, S x) {n : Nat} (hn : M.length = n) (hl : n ≤ 1000) :
    Tr TP 272 [.slice ad n cap, .int .i64 a, .int .i64 b, .func (.func g) #[] ⟨cb⟩] (Ctx J (sl fRec 10 139 ad cap M :: H)) (fun _ : List Rec => .tuple #[]) (fun A' => Stab lt A A') (fun A' => Ctx J (sl fRec 10 139 ad cap (P ++ (A' ++ T)) :: H)) := by
  have hMl : n = P.length + A.length + T.length := by rw [← hn, hM]; simp; omega
  refine en0 Tryz.func272 rfl rfl rfl (go ?_)
  refine lp (X := Nat × List Rec) (fun x => 1 ≤ x.1 ∧ (x.1 ≤ A.length ∨ x.1 = 1) ∧ Stab lt (A.take x.1) x.2) (fun (k, R) => [(0, .slice ad n cap), (1, .int .i64 a), (2, .int .i64 b), (3, .func (.func g) #[] ⟨cb⟩), (8, .int .i64 ((a + k : Nat) : Int))])
    (fun (k, R) => Ctx J (sl fRec 10 139 ad cap (P ++ (R ++ (A.drop k ++ T))) :: H)) (fun x => A.length + 1 - x.1) (1, A.take 1) ⟨Nat.le_refl _, .inr rfl, Stab.refl (by rcases A with _ | ⟨x, A⟩ <;> simp [Rises])⟩ rfl (fun _ h => by rw [hM] at h; dsimp only; rw [← List.append_assoc (A.take 1), List.take_append_drop]; exact h) fun ⟨k, R⟩ ⟨hk1, hk2, hR⟩ => ?_
  dsimp only at hk1 hk2 hR
  have hRl : R.length = (A.take k).length := hR.len hw
  refine go ?_
  refine ⟨fun h1 => ?_, fun h1 => ?_⟩
  · have hk : k < A.length := by omega
    rw [List.length_take, Nat.min_eq_left (by omega)] at hRl
    have eA : A.drop k = A[k] :: A.drop (k + 1) := List.drop_eq_getElem_cons hk
    have eT : A.take (k + 1) = A.take k ++ [A[k]] := (List.take_append_getElem hk).symm
    have hSx := hS A[k] (List.getElem_mem hk)
    generalize A[k] = x at eA eT hSx
    refine go ?_
    refine lp (X := List Rec × List Rec) (fun y => y.1.length + y.2.length = k ∧ Stab lt (A.take k) (y.1 ++ y.2) ∧ ∀ z ∈ y.2, lt x z = true) (fun (L, Z) => [(0, .slice ad n cap), (1, .int .i64 a), (2, .int .i64 b), (3, .func (.func g) #[] ⟨cb⟩), (8, .int .i64 ((a + k : Nat) : Int)), (9, .int .i64 ((a + L.length : Nat) : Int))])
      (fun (L, Z) => Ctx J (sl fRec 10 139 ad cap (P ++ (L ++ x :: (Z ++ (A.drop (k + 1) ++ T)))) :: H)) (fun y => y.1.length) (R, []) ⟨by simpa using hRl, by simpa using hR, by simp⟩ (by simp [hRl]) (fun _ h => by dsimp only at h ⊢; rw [eA] at h; simpa using h) fun ⟨L, Z⟩ ⟨hLZ, hst, hlt⟩ => ?_
    dsimp only at hLZ hst hlt
    have hml : (P ++ (L ++ x :: (Z ++ (A.drop (k + 1) ++ T)))).length = n := by simp only [List.length_append, List.length_cons, List.length_drop]; omega
    refine purH (fun w h => own_ad (show OwnS fRec 10 w 0 139 ad cap (P ++ (L ++ x :: (Z ++ (A.drop (k + 1) ++ T)))) from h) (i := P.length + L.length) (by simp)) fun hp => ?_
    refine go ?_
    rcases List.eq_nil_or_concat L with rfl | ⟨L', z, rfl⟩
    · rw [show decide ((a : Int) < ((a + ([] : List Rec).length : Nat) : Int)) = false from decide_eq_false (by simp)]
      refine go ?_
      exact en (k + 1, x :: Z) ⟨⟨by dsimp only; omega, .inl (by dsimp only; omega), by rw [eT]; exact stab_put hw (L := []) hst hlt (by simp)⟩, by dsimp only; omega⟩ rfl (fun _ h => h)
    · rw [List.concat_eq_append] at hLZ hst hml ⊢
      obtain ⟨j, hj⟩ : ∃ j, a + (L' ++ [z]).length = j + 1 := ⟨a + L'.length, by simp; omega⟩
      have hjl : P.length + L'.length = j := by simp at hj; omega
      have g2 : ((P ++ (L' ++ [z] ++ x :: (Z ++ (A.drop (k + 1) ++ T)))).set (j + 1) z).set j x = P ++ (L' ++ x :: (z :: Z ++ (A.drop (k + 1) ++ T))) := by
        have := sw2 (P ++ L') (Z ++ (A.drop (k + 1) ++ T)) x z j (by simp; omega)
        simpa using this
      have g1 : ∀ h, (P ++ (L' ++ [z] ++ x :: (Z ++ (A.drop (k + 1) ++ T))))[j + 1]'h = x := fun h => g_at (Q := P ++ (L' ++ [z])) (Z := Z ++ (A.drop (k + 1) ++ T)) (by simp) (by simp; omega) h
      have g0 : ∀ h, (P ++ (L' ++ [z] ++ x :: (Z ++ (A.drop (k + 1) ++ T))))[j]'h = z := fun h => g_at (Q := P ++ L') (Z := x :: (Z ++ (A.drop (k + 1) ++ T))) (by simp) (by simp; omega) h
      dsimp only
      rw [hj]
      generalize hM' : P ++ (L' ++ [z] ++ x :: (Z ++ (A.drop (k + 1) ++ T))) = M' at hml g0 g1 g2 ⊢
      rw [show decide ((a : Int) < ((j + 1 : Nat) : Int)) = true from decide_eq_true (by simp at hj; omega)]
      refine go ?_
      rw [show ((j + 1 : Nat) : Int) - 1 = (j : Int) by omega]
      refine go ?_
      rw [g1, g0]
      have hSz : S z := by
        have : z ∈ A.take k := (hst.mem hw (by simp))
        exact hS z (List.mem_of_mem_take this)
      refine cg (hc (fun w j => j) x z hSx hSz) fun c hc' => ?_
      refine ⟨fun h2 => gpl ?_, fun h2 => ?_⟩
      · rw [show ((j + 1 : Nat) : Int) - 1 = (j : Int) by omega]
        refine dIx (i := j) (m := n) hp (by omega) (dA rfl ?_)
        refine dIx (i := j + 1) (m := n) hp (by omega) (dA rfl ?_)
        refine go ?_
        rw [g0, g1, show ((j + 1 : Nat) : Int) - 1 = (j : Int) by omega]
        have hlx := hc'.1 h2
        refine en (L', z :: Z) ⟨⟨by simp at hLZ ⊢; omega, by simpa using hst, fun y hy => by rcases List.mem_cons.1 hy with rfl | h3; exact hlx; exact hlt _ h3⟩, by simp⟩ (by rw [show j = a + L'.length by omega]; rfl) (fun _ h => by have h' : Ctx J (sl fRec 10 139 ad cap ((M'.set (j + 1) z).set j x) :: H) _ := h; rw [g2] at h'; exact h')
      · have hlx : lt x z = false := by
          cases e : lt x z with
          | false => rfl
          | true => exact absurd (hc'.2 e) h2
        refine go ?_
        refine en (k + 1, L' ++ [z] ++ x :: Z) ⟨⟨by dsimp only; omega, .inl (by dsimp only; omega), by rw [eT]; exact stab_put hw hst hlt (last_le hw (hst.1.sublist (List.sublist_append_left ..)) hlx)⟩, by dsimp only; omega⟩ rfl (fun _ h => by rw [← hM'] at h; simpa using h)
  · refine go ?_
    have hd : A.drop k = [] := List.drop_of_length_le (by omega)
    have ht : A.take k = A := List.take_of_length_le (by omega)
    rw [ht] at hR
    exact rtE R hR rfl (fun _ h => by dsimp only at h; rw [hd] at h; exact h)
end
end
end Go.Proofs.YtimemehaccgmmaaGreatDoor
