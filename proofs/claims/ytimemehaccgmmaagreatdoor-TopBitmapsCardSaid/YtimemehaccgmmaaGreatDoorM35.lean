/-
  Parts of the walks and their plain laws (G3 G4 G5). No condition.
-/
import Derived.Test.YtimemehaccgmmaaGreatDoorM34
namespace Go.Proofs.YtimemehaccgmmaaGreatDoor
open Go.RowKit
set_option maxRecDepth 100000
set_option linter.unusedVariables false
set_option linter.unusedSimpArgs false
noncomputable section
section
variable {P : Program} {n : Fr} {t0 : Nat} {ops : Array Oper} {o : Oper} {s : List KI} {L : Env} {Q : Exit → Act → World → Prop} {J : List (World → Prop)} {H : List RC} {D : List Vq} {E : List Nat}
/-- What a place holds, whatever lies beside it. -/
def cellF (P : Program) (b off : Nat) (t : TypeId) (v : Value) (w : World) : Prop := ∃ tt vs, (pt b tt vs).A w ∧ ldC P t vs off = some v
theorem qLc {t : TypeId} {x : Operand} {b off : Nat} {v : Value} (ho : o.op = .load t x) (hx : ev L x = some (.pointer (some ⟨b, off, none⟩))) : OQ P o L (some (cellF P b off t v)) v := by
  refine ⟨by rw [ho]; rfl, fun ρ w hρ hF => ?_⟩
  obtain ⟨tt, vs, h1, h2⟩ := hF
  exact (qLd (tt := tt) ho hx h2).2 ρ w hρ h1
/-- A load that stays right while the block's other places change. -/
theorem dLc (dd k0 : Nat) {e0 b off : Nat} {t tt : TypeId} {x : Operand} {v : Value} {vs : List Value} (k : DS P n ops t0 s (⟨e0, v, some (cellF P b off t v)⟩ :: D) E ((dd, v) :: L) (Ctx J H) Q)
    (h : fnd t0 D E (fun o => match o.dst with | some d => Nat.beq d dd | none => false) nums ops.toList = some (e0, o) := by rfl) (hd : o.dst = some dd := by rfl) (ho : o.op = .load t x := by rfl) (hx : ev L x = some (.pointer (some ⟨b, off, none⟩)) := by rfl)
    (hH : H[k0]? = some (pt b tt vs) := by rfl) (hv : ldC P t vs off = some v := by rfl) (hn : Nat.blt dd n.1 = true := by rfl) (hg : gOk o ops L = some true := by rfl) : DS P n ops t0 s D E L (Ctx J H) Q :=
  kq _ h (qN (qLc (v := v) ho hx) (fun w hc => ⟨tt, vs, hc.at hH, hv⟩) hd hn hg k)
end
section
variable {J : List (World → Prop)} {H : List RC} {ob sb n : Nat} {bq q : Q2} {bs : List Int} {S : List Sec} {s1 s2 : Sec} {l : List Col} {g : Cfg}
abbrev sg0 : List Value := [.slice none 0 0, .int .i64 0, .slice none 0 0, .slice none 0 0, .slice none 0 0, .int .i64 0, .int .i64 0, .slice none 0 0, .pointer none]
set_option maxHeartbeats 4000000 in
theorem cHead (hf : fitsB l g = true) (hb : S.length ≤ 200) (hn : n ≤ 60) (hbs : bs.length ≤ 9000000 ∧ n ≤ 8 * bs.length) (e1 : s1.n = nmSch ∧ s1.b = schB l g) (e2 : s2.n = nmRows ∧ s2.b = le 4 n) (hJ : Ent J (Rs fSec 2 q.1 q.2 (s1 :: s2 :: S)) := by exact jA) (hJ2 : Ent J (sF8 s1)) (hJ3 : Ent J (sF8 s2)) :
    Tr TP 36 [pb ob] (Ctx J (pt ob 101 (opC sb bq bs q (s1 :: s2 :: S)) :: pt sb 99 sg0 :: H)) (fun _ : Q2 × SgA => .tuple #[]) (fun x => x.2.cq = (none, 0) ∧ x.2.st = .pointer none)
      (fun x => Ctx (Rs fSec 2 x.1.1 x.1.2 S :: Bn (gF' (nrm' g l.length) x.2.a) :: Rs fC 2 x.2.lq.1 x.2.lq.2 l :: J) (pt ob 101 (opC sb bq bs x.1 S) :: pt sb 99 (sgC l (nrm' g l.length) n [] x.2) :: H)) := by
  refine en0 Tryz.func36 rfl rfl rfl (addJ hJ3 (addJ (fun w j => hJ2 w j.2) (addJ (fun w j => hJ w j.2.2) ?_)))
  refine gpl ?_
  refine dLc 8 0 (dA rfl ?_)
  refine dLc 12 0 (dA rfl ?_)
  refine go ?_
  rw [show (ByteArray.mk #[115, 99, 104, 101, 109, 97]) = s1.n from e1.1.symm]
  refine ca (cNext (S := s2 :: S) (by simp; omega)) fun q1 _ => ?_
  refine ⟨fun _ _ w h => allF_all fun q hq => by
    simp only [List.mem_cons, List.not_mem_nil, or_false] at hq
    repeat' (rcases hq with hq | hq)
    all_goals (try subst hq)
    all_goals first | exact trivial | exact ⟨101, _, h.hs.1, rfl⟩, ?_⟩
  refine go ?_
  refine ca (cSchRead (l := l) (g := g) hf e1.2 (hJ := fun w j => j.2.2.1)) fun x _ => ?_
  refine ⟨fun _ _ w h => allF_all fun q hq => by
    simp only [List.mem_cons, List.not_mem_nil, or_false] at hq
    repeat' (rcases hq with hq | hq)
    all_goals (try subst hq)
    all_goals first | exact trivial | exact ⟨101, _, h.hs.1, rfl⟩, ?_⟩
  refine go ?_
  refine cg cMust fun _ _ => ?_
  rw [show (ByteArray.mk #[114, 111, 119, 115]) = s2.n from e2.1.symm]
  refine cg (cNext (S := S) (by omega)) fun q2 _ => ?_
  have h4 : s2.b.length = 4 := by rw [e2.2]; simp
  rw [show decide ((s2.b.length : Int) = 4) = true by simp [h4]]
  refine cg cSo fun _ _ => ?_
  have h8 : B8 s2.b := by rw [e2.2]; exact le_B8 _ _
  have hs4 : sub s2.b 0 (0 + 4) = le 4 (n : Int) := by rw [e2.2]; simp [sub, List.take_of_length_le]
  refine cg (cNew (xs := s2.b) (hJ := fun w j => j.2.2.2.2.2.2.1) (by omega)) fun ⟨rb, rq⟩ _ => ?_
  refine cg (gU32 (v := (n : Int)) hs4 (by omega) (by omega) (by omega) h8) fun _ _ => ?_
  rw [show decide ((n : Int) ≤ 8 * (bs.length : Int)) = true by simp; omega]
  refine cg cSo fun _ _ => ?_
  refine rtE (q2, ⟨x.1, x.2, (none, 0), .pointer none⟩) ⟨rfl, rfl⟩ rfl (fun _ h => h.rest.ent fun _ j => ⟨j.2.1, j.2.2.1, j.2.2.2.1, j.2.2.2.2.2.2.2.2⟩)
end
/-- A column's sections. -/
def colT (l : List Col) (g : Cfg) (R : List (List Vl)) (i : Nat) : List (ByteArray × List Int) := if dimB l (i : Nat) then dimS i (kdAt l i) (colV R i) (hasB g.inv i) (hasB g.rng i) (decide (g.sort = (i : Int))) else [(nmS [109, 101, 116, 114, 105, 99] i, metB ((colV R i).map (·.n)))]
theorem AllC.snoc {l : List Col} {R : List (List Vl)} {C : List Clm} {x : Clm} {w : World} (h : AllC l R C w) (k : clF l R C.length x w) : AllC l R (C ++ [x]) w := fun i hi => by
  rcases Nat.lt_or_ge i C.length with h1 | h1
  · rw [List.getElem_append_left h1]; exact h i h1
  · obtain rfl : i = C.length := by simp at hi; omega
    rw [List.getElem_append_right (Nat.le_refl _)]
    simpa using k
section
variable {J : List (World → Prop)} {H : List RC} {ob sb : Nat} {bq q : Q2} {bs : List Int} {A S : List Sec} {l : List Col} {g : Cfg} {R : List (List Vl)} {C : List Clm} {x : SgA}
abbrev opH (ob sb : Nat) (bq : Q2) (bs : List Int) (l : List Col) (g : Cfg) (n : Nat) (C : List Clm) (x : SgA) (q : Q2) (S : List Sec) (H : List RC) : List RC := pt ob 101 (opC sb bq bs q S) :: pt sb 99 (sgC l g n C x) :: sl fCl 6 106 x.cq.1 x.cq.2 C :: H
set_option maxHeartbeats 8000000 in
theorem cColM (hB : BOk l g R) (hi : C.length < l.length) (hd : dimB l (C.length : Nat) = false) {s : Sec} (e : s.n = nmS [109, 101, 116, 114, 105, 99] C.length ∧ s.b = metB ((colV R C.length).map (·.n))) (hb : S.length ≤ 200) (hJ : Ent J (Rs fSec 2 q.1 q.2 (s :: S))) (hJ2 : Ent J (sF8 s)) (hJ3 : Ent J (Rs fC 2 x.lq.1 x.lq.2 l)) (hJ5 : Ent J (AllC l R C)) :
    Tr TP 37 [pb ob, .int .i64 C.length] (Ctx J (opH ob sb bq bs l g R.length C x q (s :: S) H)) (fun _ : Q2 × Q2 × Clm => .tuple #[]) (fun y => ClmOk l g R C.length y.2.2)
      (fun y => Ctx (AllC l R (C ++ [y.2.2]) :: Rs fSec 2 y.1.1 y.1.2 S :: J) (opH ob sb bq bs l g R.length (C ++ [y.2.2]) { x with cq := y.2.1 } y.1 S H)) := by
  have hbl := hB.t.bl
  have hbi : C.length < 10 := by omega
  refine en0 Tryz.func37 rfl rfl rfl (addJ hJ5 (addJ (fun w j => hJ3 w j.2) (addJ (fun w j => hJ2 w j.2.2) (addJ (fun w j => hJ w j.2.2.2) (go ?_)))))
  intro c4
  refine cg (cItoa hbi) fun _ _ => ?_
  refine hA rfl rfl rfl ((qSa rfl (show 1 + 1 ≤ _ by omega)).os (fun _ _ => trivial)) rfl ?_
  refine go ?_
  refine cg (cDim (l := l)) fun _ _ => ?_
  rw [hd]
  refine ⟨fun _ => ?_, fun h => absurd h (by simp)⟩
  have hbm : (colV R C.length).length = R.length := by simp [colV]
  have hRb : R.length ≤ 60 := hB.t.br
  refine gpl ?_
  refine dLc 30 1 (dA rfl ?_)
  refine kq (fun o => match o.dst with | some d => Nat.beq d 25 | none => false) rfl (qN (qSa rfl (show 6 + 2 ≤ _ by omega)) (fun _ _ => trivial) rfl rfl rfl (dA rfl ?_))
  rw [show (ByteArray.mk #[109, 101, 116, 114, 105, 99]) ++ ((ByteArray.mk #[46]) ++ dig C.length) = s.n from (nmS_app [109, 101, 116, 114, 105, 99] C.length).trans e.1.symm]
  refine go ?_
  refine frc 1 rfl ?_
  refine ca (cNext (S := S) (by omega) (hJ := fun w j => j.1)) fun q1 _ => ?_
  refine ⟨fun _ _ w h => allF_all fun q hq => by
    simp only [List.mem_cons, List.not_mem_nil, or_false] at hq
    repeat' (rcases hq with hq | hq)
    all_goals (try subst hq)
    all_goals first | exact trivial | exact ⟨101, _, h.hs.1, rfl⟩ | exact h.hs.2.1 | exact h.hs.2.2.1, ?_⟩
  refine go ?_
  have hLl : ((colV R C.length).map (·.n)).length = R.length := by rw [List.length_map, hbm]
  have hM : ∀ {J H} (hJ : Ent J (Rs f8 1 s.q.1 s.q.2 s.b)), Tr TP 94 [.slice s.q.1 s.b.length s.q.2, .int .i64 R.length] (Ctx J H) (fun x : Nat × Q2 => .tuple #[pb x.1, .int .i64 0]) (fun _ => True) (fun x => Ctx (Bn (Met x ((colV R C.length).map (·.n))) :: J) H) := by
    intro J H hJ
    rw [e.2] at hJ ⊢
    rw [← hLl]
    exact cMRead (hJ := hJ) (by omega) fun n hn => by
      obtain ⟨v, hv, rfl⟩ := List.mem_map.1 hn
      exact (hB.col hi v hv).1.n
  refine ca (hM (by exact fun w j => j.2.2.1)) fun y _ => ?_
  refine ⟨fun _ _ w h => allF_all fun q hq => by
    simp only [List.mem_cons, List.not_mem_nil, or_false] at hq
    repeat' (rcases hq with hq | hq)
    all_goals (try subst hq)
    all_goals first | exact trivial | exact ⟨101, _, h.hs.1, rfl⟩ | exact h.hs.2.1 | exact h.hs.2.2.1, ?_⟩
  refine go ?_
  refine cg cMust fun _ _ => ?_
  intro b1
  obtain ⟨c0, hc0⟩ : ∃ c0 : Clm, c0 = { dim := false, iv := hasB g.inv (C.length : Nat), rg := hasB g.rng (C.length : Nat), sr := false, d := (0, none, 0), f := (0, none, 0), m := y, v := (0, (none, 0), []), r := (0, (none, 0), []), s := (0, none, 0) } := ⟨_, rfl⟩
  refine kq (kB 11) rfl (qX (oAp1 (k := 3) (f := fCl) (y := c0) rfl rfl (by rw [hc0]; rfl) ln rfl rfl rfl rfl om (fun _ => rfl)) rfl rfl rfl rfl af fun q2 => dA rfl ?_)
  refine go ?_
  refine rt (q1, q2, c0) ⟨by rw [hc0, hd], by rw [hc0], by rw [hc0], (by rw [hc0]; intro h; exact nomatch h), (by rw [hc0]; intro h; exact nomatch h)⟩ rfl (fun w h => (h.drp 1).ent fun w j => ⟨AllC.snoc j.2.2.2.2.2.1 ?_, j.2.1, j.2.2.2.2.2.2⟩)
  rw [hc0]
  exact ⟨(fun h => nomatch h), (fun _ => j.1), (fun h => nomatch h), (fun h => nomatch h)⟩
end
section
variable {J : List (World → Prop)} {H : List RC} {ob sb : Nat} {bq q : Q2} {bs : List Int} {A S : List Sec} {l : List Col} {g : Cfg} {R : List (List Vl)} {C : List Clm} {x : SgA}
set_option maxHeartbeats 16000000 in
theorem cColD (hB : BOk l g R) (hs : SrtR g R) (hi : C.length < l.length) (hd : dimB l (C.length : Nat) = true) (hAp : A.map Sec.pl = dimS C.length (kdAt l C.length) (colV R C.length) (hasB g.inv (C.length : Nat)) (hasB g.rng (C.length : Nat)) (decide (g.sort = (C.length : Int)))) (hb : (A ++ S).length ≤ 200) (hT : Ent J TabT) (hJ : Ent J (Rs fSec 2 q.1 q.2 (A ++ S))) (hJ2 : Ent J (AllE sF8 A)) (hJ3 : Ent J (Rs fC 2 x.lq.1 x.lq.2 l)) (hJ4 : Ent J (Bn (gF' g x.a))) (hJ5 : Ent J (AllC l R C)) :
    Tr TP 37 [pb ob, .int .i64 C.length] (Ctx J (opH ob sb bq bs l g R.length C x q (A ++ S) H)) (fun _ : Q2 × Q2 × Clm => .tuple #[]) (fun y => ClmOk l g R C.length y.2.2)
      (fun y => Ctx (AllC l R (C ++ [y.2.2]) :: Rs fSec 2 y.1.1 y.1.2 S :: J) (opH ob sb bq bs l g R.length (C ++ [y.2.2]) { x with cq := y.2.1 } y.1 S H)) := by
  have hbl := hB.t.bl
  have hbi : C.length < 10 := by omega
  have hcl : (colV R C.length).length = R.length := by simp [colV]
  have hRb : R.length ≤ 60 := hB.t.br
  obtain ⟨c, hc⟩ : ∃ c, c = colV R C.length := ⟨_, rfl⟩
  rw [← hc] at hAp hcl
  obtain ⟨s1, A1, rfl⟩ : ∃ s1 A1, A = s1 :: A1 := by
    cases A with
    | nil => simp [dimS] at hAp
    | cons a A => exact ⟨_, _, rfl⟩
  obtain ⟨s2, A2, rfl⟩ : ∃ s2 A2, A1 = s2 :: A2 := by
    cases A1 with
    | nil => simp [dimS] at hAp
    | cons a A => exact ⟨_, _, rfl⟩
  have hA3 : s1.pl = (nmS [100, 105, 99, 116] C.length, dicB (kdAt l C.length) (dic c)) ∧ s2.pl = (nmS [102, 111, 114, 119, 97, 114, 100] C.length, fwdB (idsV c) (dic c).length) ∧ A2.map Sec.pl = (if hasB g.inv (C.length : Nat) then [(nmS [105, 110, 118, 101, 114, 116, 101, 100] C.length, imgs (ivP (idsV c) (dic c).length))] else []) ++
    ((if hasB g.rng (C.length : Nat) then [(nmS [114, 97, 110, 103, 101, 100] C.length, imgs (rgP (idsV c) (dic c).length))] else []) ++ (if decide (g.sort = (C.length : Int)) then [(nmS [115, 111, 114, 116, 101, 100] C.length, srB (sE (idsV c) (idsV c).length))] else [])) := by
    simp only [dimS, List.map_cons, List.cons_append, List.cons.injEq, List.nil_append] at hAp
    exact hAp
  obtain ⟨p1, p2, p3⟩ := hA3
  have hk := kdC_or (d := l[C.length])
  have hI := idsV_ok (c := c) (by omega)
  have hdl := dic_len c
  have hcc : ∀ v ∈ c, OkV v ∧ v.k = kdC l[C.length] ∧ v.s.size ≤ 100 := by rw [hc]; exact hB.col hi
  have hV : VOk (kdC l[C.length]) (dic c) := ⟨hk, by omega, fun v hv => hcc v ((dic_mem c v).1 hv)⟩
  rw [kdAt_eq hi] at p1
  have p1n : s1.n = nmS [100, 105, 99, 116] C.length := congrArg Prod.fst p1
  have p1b : s1.b = dicB (kdC l[C.length]) (dic c) := congrArg Prod.snd p1
  have p2n : s2.n = nmS [102, 111, 114, 119, 97, 114, 100] C.length := congrArg Prod.fst p2
  have p2b : s2.b = fwdB (idsV c) (dic c).length := congrArg Prod.snd p2
  have h0 : 1 ≤ (dic c).length ∨ idsV c = [] := by
    cases c with
    | nil => exact .inr rfl
    | cons a t => exact .inl (List.length_pos_of_mem ((dic_mem (a :: t) a).2 (List.mem_cons_self ..)))
  have hil : (idsV c).length = R.length := by rw [idsV_len]; exact hcl
  simp only [List.length_append, List.length_cons] at hb
  refine en0 Tryz.func37 rfl rfl rfl (addJ hT (addJ (fun w j => hJ4 w j.2) (addJ (fun w j => hJ5 w j.2.2) (addJ (fun w j => hJ2 w j.2.2.2) (addJ (fun w j => hJ3 w j.2.2.2.2) (addJ (fun w j => hJ w j.2.2.2.2.2) (go ?_)))))))
  intro c4
  refine cg (cItoa hbi) fun _ _ => ?_
  refine hA rfl rfl rfl ((qSa rfl (show 1 + 1 ≤ _ by omega)).os (fun _ _ => trivial)) rfl ?_
  refine go ?_
  refine cg (cDim (l := l)) fun _ _ => ?_
  rw [hd]
  refine ⟨fun h => absurd h (by simp), fun _ => ?_⟩
  refine adv_sound 400 [] rfl ?_
  refine hA rfl rfl rfl ((qSa rfl (show 4 + 2 ≤ _ by omega)).os (fun _ _ => trivial)) rfl ?_
  rw [show (ByteArray.mk #[100, 105, 99, 116]) ++ ((ByteArray.mk #[46]) ++ dig C.length) = s1.n from (nmS_app [100, 105, 99, 116] C.length).trans p1n.symm]
  refine go ?_
  refine frc 1 rfl ?_
  refine cg (cNext (S := s2 :: (A2 ++ S)) (by simp; omega) (hJ := fun w j => j.1)) fun q1 _ => ?_
  have hD : ∀ {J H} (hJ : Ent J (Rs f8 1 s1.q.1 s1.q.2 s1.b)), Tr TP 95 [.slice s1.q.1 s1.b.length s1.q.2] (Ctx J H) (fun x : Nat × Q2 => .tuple #[pb x.1, .int .i64 0]) (fun _ => True) (fun x => Ctx (Bn (Dct x (kdC l[C.length]) (dic c)) :: J) H) := by
    intro J H hJ
    rw [p1b] at hJ ⊢
    exact cDRead (hJ := hJ) hV (dic_strict c)
  refine cg (hD (by exact fun w j => j.2.2.2.1 s1 (by simp))) fun d1 _ => ?_
  refine cg cMust fun _ _ => ?_
  have hBB : (ByteArray.mk #[46]) ++ dig C.length = (ByteArray.mk #[46]) ++ dig C.length := rfl
  refine ct2 (X := Unit) (fun _ => True) (fun _ => [(0, pb ob), (1, .int .i64 C.length), (4, pb c4), (6, .string ((ByteArray.mk #[46]) ++ dig C.length)), (7, .int .u8 (kdC l[C.length]))])
    (fun _ => Ctx (Bn (Dct d1 (kdC l[C.length]) (dic c)) :: Rs fSec 2 q1.1 q1.2 (s2 :: (A2 ++ S)) :: AllE sF8 (s1 :: s2 :: A2) :: Bn (gF' g x.a) :: TabT :: AllC l R C :: J) (pt ob 101 (opC sb bq bs q1 (s2 :: (A2 ++ S))) :: pt c4 106 [pb d1.1, .pointer none, .pointer none, .pointer none, .pointer none, .pointer none] :: pt sb 99 (sgC l g R.length C x) :: sl fCl 6 106 x.cq.1 x.cq.2 C :: H)) ⟨fun h1 => ?_, fun h1 => ?_⟩ fun _ _ => ?_
  · refine go ?_
    exact en () trivial (by simp [kdC, h1]) (fun _ h => h.ent fun _ j => ⟨j.1, j.2.1, j.2.2.2.2.1, j.2.2.2.2.2.2.1, j.2.2.2.2.2.2.2.1, j.2.2.2.2.2.1, j.2.2.2.2.2.2.2.2⟩)
  · refine go ?_
    exact en () trivial (by simp [kdC, h1]) (fun _ h => h.ent fun _ j => ⟨j.1, j.2.1, j.2.2.2.2.1, j.2.2.2.2.2.2.1, j.2.2.2.2.2.2.2.1, j.2.2.2.2.2.1, j.2.2.2.2.2.2.2.2⟩)
  refine go ?_
  refine cg (cDKind (x := d1) (kd := kdC l[C.length]) (D := dic c) (hk := hk)) fun _ _ => ?_
  rw [show decide (kdC l[C.length] = kdC l[C.length]) = true by simp]
  refine cg cSo fun _ _ => ?_
  refine ca (cDLen (x := d1) (kd := kdC l[C.length]) (D := dic c) (hk := hk)) fun _ _ => ?_
  refine gpl ?_
  refine dLc 96 0 (dA rfl ?_)
  refine kq (fun o => match o.dst with | some d => Nat.beq d 91 | none => false) rfl (qN (qSa rfl (show 7 + 2 ≤ _ by omega)) (fun _ _ => trivial) rfl rfl rfl (dA rfl ?_))
  rw [show (ByteArray.mk #[102, 111, 114, 119, 97, 114, 100]) ++ ((ByteArray.mk #[46]) ++ dig C.length) = s2.n from (nmS_app [102, 111, 114, 119, 97, 114, 100] C.length).trans p2n.symm]
  refine go ?_
  refine ca (cNext (S := A2 ++ S) (by simp; omega) (hJ := fun w j => j.2.1)) fun q2 _ => ?_
  refine ⟨fun _ _ w h => allF_all fun q hq => by
    simp only [List.mem_cons, List.not_mem_nil, or_false] at hq
    repeat' (rcases hq with hq | hq)
    all_goals (try subst hq)
    all_goals first | exact trivial | exact ⟨101, _, h.hs.1, rfl⟩ | exact h.hs.2.1 | exact h.hs.2.2.1, ?_⟩
  refine go ?_
  have hF : ∀ {J H} (hJ : Ent J (Rs f8 1 s2.q.1 s2.q.2 s2.b)), Tr TP 97 [.slice s2.q.1 s2.b.length s2.q.2, .int .i64 R.length, .int .i64 (dic c).length] (Ctx J H) (fun x : Nat × Q2 => .tuple #[pb x.1, .int .i64 0]) (fun _ => True) (fun x => Ctx (Bn (Fwd x (idsV c) (dic c).length) :: J) H) := by
    intro J H hJ
    rw [p2b] at hJ ⊢
    rw [← hil]
    exact cFRead (hJ := hJ) (by omega) (by omega) hI.lt h0
  refine ca (hF (by exact fun w j => j.2.2.2.1 s2 (by simp))) fun f1 _ => ?_
  refine ⟨fun _ _ w h => allF_all fun q hq => by
    simp only [List.mem_cons, List.not_mem_nil, or_false] at hq
    repeat' (rcases hq with hq | hq)
    all_goals (try subst hq)
    all_goals first | exact trivial | exact ⟨101, _, h.hs.1, rfl⟩ | exact h.hs.2.1 | exact h.hs.2.2.1, ?_⟩
  refine go ?_
  refine cg cMust fun _ _ => ?_
  have hIv : ∀ {J H} {s : Sec} (hb : s.b = imgs (ivP (idsV c) (dic c).length)) (hT : Ent J TabT) (hJ : Ent J (Rs f8 1 s.q.1 s.q.2 s.b)), Tr TP 98 [.slice s.q.1 s.b.length s.q.2, .int .i64 R.length, .int .i64 (dic c).length] (Ctx J H) (fun x : Nat × Q2 × List SP => .tuple #[pb x.1, .int .i64 0]) (fun x => x.2.2.map (·.2) = ivP (idsV c) (dic c).length) (fun x => Ctx (Bn (IvF 126 x.1 x.2.1 x.2.2) :: J) H) := by
    intro J H s hb hT hJ
    have e : (ivP (idsV c) (dic c).length).length = (dic c).length := by simp [ivP]
    have := cIvRead (H := H) (ps := ivP (idsV c) (dic c).length) (r := R.length) hI.iv hRb (by rw [hI.lns]; exact hil) (by rw [hI.unp, hil]) hb hT hJ
    rw [e] at this; exact this
  have hRg : ∀ {J H} {s : Sec} (hb : s.b = imgs (rgP (idsV c) (dic c).length)) (hT : Ent J TabT) (hJ : Ent J (Rs f8 1 s.q.1 s.q.2 s.b)), Tr TP 99 [.slice s.q.1 s.b.length s.q.2, .int .i64 R.length, .int .i64 (dic c).length] (Ctx J H) (fun x : Nat × Q2 × List SP => .tuple #[pb x.1, .int .i64 0]) (fun x => x.2.2.map (·.2) = rgP (idsV c) (dic c).length) (fun x => Ctx (Bn (IvF 130 x.1 x.2.1 x.2.2) :: J) H) := by
    intro J H s hb hT hJ
    have e : (rgP (idsV c) (dic c).length).length = (dic c).length := by simp [rgP]
    have := cRgRead (H := H) (ps := rgP (idsV c) (dic c).length) (r := R.length) hI.rg hRb hI.nest (by rw [hI.upto, hil]) hb hT hJ
    rw [e] at this; exact this
  have hSr : ∀ {J H} {s : Sec} (hg : g.sort = (C.length : Int)) (hb : s.b = srB (sE (idsV c) (idsV c).length)) (hJ : Ent J (Rs f8 1 s.q.1 s.q.2 s.b)), Tr TP 100 [.slice s.q.1 s.b.length s.q.2, .int .i64 R.length, .int .i64 (dic c).length] (Ctx J H) (fun x : Nat × Q2 => .tuple #[pb x.1, .int .i64 0]) (fun _ => True) (fun x => Ctx (Bn (SrF x.1 x.2 (sE (idsV c) (idsV c).length)) :: J) H) := by
    intro J H s hg hb hJ
    have hU := idsV_up (c := c) (by omega) (by rw [hc]; exact hs _ hg)
    have e : (sE (idsV c) (idsV c).length).length = (dic c).length := hU.len
    have h1 := hU.ends
    rw [hil] at h1
    have := cSrRead (H := H) (L := sE (idsV c) (idsV c).length) (r := R.length) (by rw [hil]; exact h1) hb hJ
    rw [e] at this; exact this
  obtain ⟨r1, hr1⟩ : ∃ r1 : List (ByteArray × List Int), r1 = (if hasB g.rng (C.length : Nat) then [(nmS [114, 97, 110, 103, 101, 100] C.length, imgs (rgP (idsV c) (dic c).length))] else []) ++ (if decide (g.sort = (C.length : Int)) then [(nmS [115, 111, 114, 116, 101, 100] C.length, srB (sE (idsV c) (idsV c).length))] else []) := ⟨_, rfl⟩
  rw [← hr1] at p3
  refine cg (cHasF (fl := g.inv) (hJ := fun w j => j.2.2.2.2.2.1.out.1) (hb := by have := hB.bi; omega)) fun _ _ => ?_
  refine ct2 (X := Q2 × List Sec × (Nat × Q2 × List SP)) (fun y => y.2.1.map Sec.pl = r1 ∧ (∀ z ∈ y.2.1, z ∈ A2) ∧ (hasB g.inv (C.length : Nat) = true → y.2.2.2.2.map (·.2) = ivP (idsV c) (dic c).length)) (fun _ => [(0, pb ob), (1, .int .i64 C.length), (4, pb c4), (6, .string ((ByteArray.mk #[46]) ++ dig C.length)), (8, .int .i64 (dic c).length)])
    (fun y => Ctx ((fun w => hasB g.inv (C.length : Nat) = true → Bn (IvF 126 y.2.2.1 y.2.2.2.1 y.2.2.2.2) w) :: Rs fSec 2 y.1.1 y.1.2 (y.2.1 ++ S) :: AllE sF8 A2 :: Bn (gF' g x.a) :: TabT :: Bn (Dct d1 (kdC l[C.length]) (dic c)) :: Bn (Fwd f1 (idsV c) (dic c).length) :: AllC l R C :: J) (pt ob 101 (opC sb bq bs y.1 (y.2.1 ++ S)) :: pt c4 106 [pb d1.1, pb f1.1, .pointer none, pO (hasB g.inv (C.length : Nat)) y.2.2.1, .pointer none, .pointer none] :: pt sb 99 (sgC l g R.length C x) :: sl fCl 6 106 x.cq.1 x.cq.2 C :: H)) ⟨fun h1 => ?_, fun h1 => ?_⟩ fun ⟨q3, A3, v1⟩ ⟨a1, a2, a3⟩ => ?_
  · rw [h1, if_pos rfl] at p3
    obtain ⟨s3, A3, rfl⟩ : ∃ s3 A3, A2 = s3 :: A3 := by
      cases A2 with
      | nil => simp at p3
      | cons a A => exact ⟨_, _, rfl⟩
    rw [List.map_cons, List.singleton_append, List.cons.injEq] at p3
    have p3n : s3.n = nmS [105, 110, 118, 101, 114, 116, 101, 100] C.length := congrArg Prod.fst p3.1
    have p3b : s3.b = imgs (ivP (idsV c) (dic c).length) := congrArg Prod.snd p3.1
    simp only [List.length_cons] at hb
    refine gpl ?_
    refine dLc 125 0 (dA rfl ?_)
    refine kq (fun o => match o.dst with | some d => Nat.beq d 120 | none => false) rfl (qN (qSa rfl (show 8 + 2 ≤ _ by omega)) (fun _ _ => trivial) rfl rfl rfl (dA rfl ?_))
    rw [show (ByteArray.mk #[105, 110, 118, 101, 114, 116, 101, 100]) ++ ((ByteArray.mk #[46]) ++ dig C.length) = s3.n from (nmS_app [105, 110, 118, 101, 114, 116, 101, 100] C.length).trans p3n.symm]
    refine go ?_
    refine ca (cNext (S := A3 ++ S) (by simp; omega) (hJ := fun w j => j.2.1)) fun q3 _ => ?_
    refine ⟨fun _ _ w h => allF_all fun q hq => by
      simp only [List.mem_cons, List.not_mem_nil, or_false] at hq
      repeat' (rcases hq with hq | hq)
      all_goals (try subst hq)
      all_goals first | exact trivial | exact ⟨101, _, h.hs.1, rfl⟩ | exact h.hs.2.1 | exact h.hs.2.2.1, ?_⟩
    refine go ?_
    refine ca (hIv p3b (by exact fun w j => j.2.2.2.2.2.2.2.1) (by exact fun w j => j.2.2.2.2.2.1 s3 (by simp))) fun v1 hv1 => ?_
    refine ⟨fun _ _ w h => allF_all fun q hq => by
      simp only [List.mem_cons, List.not_mem_nil, or_false] at hq
      repeat' (rcases hq with hq | hq)
      all_goals (try subst hq)
      all_goals first | exact trivial | exact ⟨101, _, h.hs.1, rfl⟩ | exact h.hs.2.1 | exact h.hs.2.2.1, ?_⟩
    refine go ?_
    refine cg cMust fun _ _ => ?_
    exact en (q3, A3, v1) ⟨p3.2, fun z h => by simp [h], fun _ => hv1⟩ (by rw [h1]; rfl) (fun w h => by
      rw [h1]
      exact h.ent fun w j => ⟨(fun _ => j.1), j.2.1, (fun z hz => j.2.2.2.2.2.2.1 z (by simp [hz])), j.2.2.2.2.2.2.2.1, j.2.2.2.2.2.2.2.2.1, j.2.2.2.2.1, j.2.2.1, j.2.2.2.2.2.2.2.2.2.1, j.2.2.2.2.2.2.2.2.2.2⟩)
  · rw [h1, if_neg (by simp)] at p3
    refine adv_sound 400 [] rfl ?_
    exact en (q2, A2, (0, (none, 0), [])) ⟨p3, fun z h => h, fun h => absurd h (by rw [h1]; simp)⟩ (by rw [h1]; rfl) (fun w h => by
      rw [h1]
      exact h.ent fun w j => ⟨(fun h => nomatch h), j.2.1, (fun z hz => j.2.2.2.2.1 z (by simp [hz])), j.2.2.2.2.2.1, j.2.2.2.2.2.2.1, j.2.2.1, j.1, j.2.2.2.2.2.2.2.1, j.2.2.2.2.2.2.2.2⟩)
  dsimp only at a1 a2 a3
  rw [hr1] at a1
  obtain ⟨r2, hr2⟩ : ∃ r2 : List (ByteArray × List Int), r2 = (if decide (g.sort = (C.length : Int)) then [(nmS [115, 111, 114, 116, 101, 100] C.length, srB (sE (idsV c) (idsV c).length))] else []) := ⟨_, rfl⟩
  rw [← hr2] at a1
  have hb3 : A3.length + S.length ≤ 200 := by
    have h1 := congrArg List.length a1
    rw [List.length_map, hr2] at h1
    have h2 : A3.length ≤ 2 := by
      rw [h1, List.length_append]
      split <;> split <;> simp
    omega
  dsimp only
  refine go ?_
  refine cg (cHasF (fl := g.rng) (hJ := fun w j => j.2.2.2.1.out.2.1) (hb := by have := hB.bg; omega)) fun _ _ => ?_
  refine ct2 (X := Q2 × List Sec × (Nat × Q2 × List SP)) (fun y => y.2.1.map Sec.pl = r2 ∧ (∀ z ∈ y.2.1, z ∈ A2) ∧ (hasB g.rng (C.length : Nat) = true → y.2.2.2.2.map (·.2) = rgP (idsV c) (dic c).length)) (fun _ => [(0, pb ob), (1, .int .i64 C.length), (4, pb c4), (6, .string ((ByteArray.mk #[46]) ++ dig C.length)), (8, .int .i64 (dic c).length)])
    (fun y => Ctx ((fun w => hasB g.rng (C.length : Nat) = true → Bn (IvF 130 y.2.2.1 y.2.2.2.1 y.2.2.2.2) w) :: Rs fSec 2 y.1.1 y.1.2 (y.2.1 ++ S) :: (fun w => hasB g.inv (C.length : Nat) = true → Bn (IvF 126 v1.1 v1.2.1 v1.2.2) w) :: AllE sF8 A2 :: Bn (gF' g x.a) :: TabT :: Bn (Dct d1 (kdC l[C.length]) (dic c)) :: Bn (Fwd f1 (idsV c) (dic c).length) :: AllC l R C :: J) (pt ob 101 (opC sb bq bs y.1 (y.2.1 ++ S)) :: pt c4 106 [pb d1.1, pb f1.1, .pointer none, pO (hasB g.inv (C.length : Nat)) v1.1, pO (hasB g.rng (C.length : Nat)) y.2.2.1, .pointer none] :: pt sb 99 (sgC l g R.length C x) :: sl fCl 6 106 x.cq.1 x.cq.2 C :: H)) ⟨fun h1 => ?_, fun h1 => ?_⟩ fun ⟨q4, A4, v2⟩ ⟨b1, b2, b3⟩ => ?_
  · rw [h1, if_pos rfl] at a1
    obtain ⟨s4, A4, rfl⟩ : ∃ s4 A4, A3 = s4 :: A4 := by
      cases A3 with
      | nil => simp at a1
      | cons a A => exact ⟨_, _, rfl⟩
    rw [List.map_cons, List.singleton_append, List.cons.injEq] at a1
    have p4n : s4.n = nmS [114, 97, 110, 103, 101, 100] C.length := congrArg Prod.fst a1.1
    have p4b : s4.b = imgs (rgP (idsV c) (dic c).length) := congrArg Prod.snd a1.1
    simp only [List.length_cons] at hb3
    refine gpl ?_
    refine dLc 154 0 (dA rfl ?_)
    refine kq (fun o => match o.dst with | some d => Nat.beq d 149 | none => false) rfl (qN (qSa rfl (show 6 + 2 ≤ _ by omega)) (fun _ _ => trivial) rfl rfl rfl (dA rfl ?_))
    rw [show (ByteArray.mk #[114, 97, 110, 103, 101, 100]) ++ ((ByteArray.mk #[46]) ++ dig C.length) = s4.n from (nmS_app [114, 97, 110, 103, 101, 100] C.length).trans p4n.symm]
    refine go ?_
    refine ca (cNext (S := A4 ++ S) (by simp; omega) (hJ := fun w j => j.2.1)) fun q4 _ => ?_
    refine ⟨fun _ _ w h => allF_all fun q hq => by
      simp only [List.mem_cons, List.not_mem_nil, or_false] at hq
      repeat' (rcases hq with hq | hq)
      all_goals (try subst hq)
      all_goals first | exact trivial | exact ⟨101, _, h.hs.1, rfl⟩ | exact h.hs.2.1 | exact h.hs.2.2.1, ?_⟩
    refine go ?_
    refine ca (hRg p4b (by exact fun w j => j.2.2.2.2.2.1) (by exact fun w j => j.2.2.2.1 s4 (a2 s4 (by simp)))) fun v2 hv2 => ?_
    refine ⟨fun _ _ w h => allF_all fun q hq => by
      simp only [List.mem_cons, List.not_mem_nil, or_false] at hq
      repeat' (rcases hq with hq | hq)
      all_goals (try subst hq)
      all_goals first | exact trivial | exact ⟨101, _, h.hs.1, rfl⟩ | exact h.hs.2.1 | exact h.hs.2.2.1, ?_⟩
    refine go ?_
    refine cg cMust fun _ _ => ?_
    exact en (q4, A4, v2) ⟨a1.2, fun z h => a2 z (by simp [h]), fun _ => hv2⟩ (by rw [h1]; rfl) (fun w h => by
      rw [h1]
      exact h.ent fun w j => ⟨(fun _ => j.1), j.2.1, j.2.2.1, j.2.2.2.2.1, j.2.2.2.2.2.1, j.2.2.2.2.2.2.1, j.2.2.2.2.2.2.2.1, j.2.2.2.2.2.2.2.2.1, j.2.2.2.2.2.2.2.2.2.1, j.2.2.2.2.2.2.2.2.2.2⟩)
  · rw [h1, if_neg (by simp), List.nil_append] at a1
    refine adv_sound 400 [] rfl ?_
    exact en (q3, A3, (0, (none, 0), [])) ⟨a1, a2, fun h => absurd h (by rw [h1]; simp)⟩ (by rw [h1]; rfl) (fun w h => by
      rw [h1]
      exact h.ent fun w j => ⟨(fun h => nomatch h), j.2.1, j.1, j.2.2⟩)
  dsimp only at b1 b2 b3
  rw [hr2] at b1
  dsimp only
  refine go ?_
  have hb4 : A4.length + S.length ≤ 200 := by
    have h1 := congrArg List.length b1
    rw [List.length_map] at h1
    have h2 : A4.length ≤ 1 := by rw [h1]; split <;> simp
    omega
  refine ct2 (X := Q2 × List Sec × (Nat × Q2)) (fun y => y.2.1 = []) (fun _ => [(0, pb ob), (1, .int .i64 C.length), (4, pb c4)])
    (fun y => Ctx (Rs fSec 2 y.1.1 y.1.2 S :: (fun w => hasB g.rng (C.length : Nat) = true → Bn (IvF 130 v2.1 v2.2.1 v2.2.2) w) :: (fun w => hasB g.inv (C.length : Nat) = true → Bn (IvF 126 v1.1 v1.2.1 v1.2.2) w) :: Bn (Dct d1 (kdC l[C.length]) (dic c)) :: Bn (Fwd f1 (idsV c) (dic c).length) :: AllC l R C :: J) (pt ob 101 (opC sb bq bs y.1 S) :: pt c4 106 [pb d1.1, pb f1.1, .pointer none, pO (hasB g.inv (C.length : Nat)) v1.1, pO (hasB g.rng (C.length : Nat)) v2.1, pO (decide (g.sort = (C.length : Int))) y.2.2.1] :: pt sb 99 (sgC l g R.length C x) :: sl fCl 6 106 x.cq.1 x.cq.2 C :: H)) ⟨fun h1 => ?_, fun h1 => ?_⟩ fun ⟨q5, A5, v3⟩ c1 => ?_
  · rw [if_pos (by simpa using h1)] at b1
    obtain ⟨s5, A5, rfl⟩ : ∃ s5 A5, A4 = s5 :: A5 := by
      cases A4 with
      | nil => simp at b1
      | cons a A => exact ⟨_, _, rfl⟩
    rw [List.map_cons, List.cons.injEq] at b1
    have p5n : s5.n = nmS [115, 111, 114, 116, 101, 100] C.length := congrArg Prod.fst b1.1
    have p5b : s5.b = srB (sE (idsV c) (idsV c).length) := congrArg Prod.snd b1.1
    obtain rfl : A5 = [] := by simpa using b1.2
    refine gpl ?_
    refine dLc 183 0 (dA rfl ?_)
    refine kq (fun o => match o.dst with | some d => Nat.beq d 178 | none => false) rfl (qN (qSa rfl (show 6 + 2 ≤ _ by omega)) (fun _ _ => trivial) rfl rfl rfl (dA rfl ?_))
    rw [show (ByteArray.mk #[115, 111, 114, 116, 101, 100]) ++ ((ByteArray.mk #[46]) ++ dig C.length) = s5.n from (nmS_app [115, 111, 114, 116, 101, 100] C.length).trans p5n.symm]
    refine go ?_
    refine ca (cNext (S := S) (by omega) (hJ := fun w j => j.2.1)) fun q5 _ => ?_
    refine ⟨fun _ _ w h => allF_all fun q hq => by
      simp only [List.mem_cons, List.not_mem_nil, or_false] at hq
      repeat' (rcases hq with hq | hq)
      all_goals (try subst hq)
      all_goals first | exact trivial | exact ⟨101, _, h.hs.1, rfl⟩ | exact h.hs.2.1 | exact h.hs.2.2.1, ?_⟩
    refine go ?_
    refine ca (hSr h1 p5b (by exact fun w j => j.2.2.2.2.1 s5 (b2 s5 (by simp)))) fun v3 _ => ?_
    refine ⟨fun _ _ w h => allF_all fun q hq => by
      simp only [List.mem_cons, List.not_mem_nil, or_false] at hq
      repeat' (rcases hq with hq | hq)
      all_goals (try subst hq)
      all_goals first | exact trivial | exact ⟨101, _, h.hs.1, rfl⟩ | exact h.hs.2.1 | exact h.hs.2.2.1, ?_⟩
    refine go ?_
    refine cg cMust fun _ _ => ?_
    exact en (q5, [], v3) rfl rfl (fun w h => by
      rw [decide_eq_true h1]
      exact h.ent fun w j => ⟨j.2.1, j.2.2.1, j.2.2.2.2.1, j.2.2.2.2.2.2.2.2.1, j.2.2.2.2.2.2.2.2.2.1, j.2.2.2.2.2.2.2.2.2.2.1, j.2.2.2.2.2.2.2.2.2.2.2⟩)
  · rw [if_neg (by simpa using h1)] at b1
    obtain rfl : A4 = [] := by simpa using b1
    refine adv_sound 400 [] rfl ?_
    exact en (q4, [], (0, (none, 0))) rfl rfl (fun w h => by
      rw [decide_eq_false h1]
      exact h.ent fun w j => ⟨j.2.1, j.1, j.2.2.1, j.2.2.2.2.2.2.1, j.2.2.2.2.2.2.2.1, j.2.2.2.2.2.2.2.2.1, j.2.2.2.2.2.2.2.2.2⟩)
  refine go ?_
  intro b1
  obtain ⟨c0, hc0⟩ : ∃ c0 : Clm, c0 = { dim := true, iv := hasB g.inv (C.length : Nat), rg := hasB g.rng (C.length : Nat), sr := decide (g.sort = (C.length : Int)), d := d1, f := f1, m := (0, none, 0), v := v1, r := v2, s := v3 } := ⟨_, rfl⟩
  refine kq (kB 11) rfl (qX (oAp1 (k := 3) (f := fCl) (y := c0) rfl rfl (by rw [hc0]; rfl) ln rfl rfl rfl rfl om (fun _ => rfl)) rfl rfl rfl rfl af fun q6 => dA rfl ?_)
  refine go ?_
  refine rtE (q5, q6, c0) ⟨by rw [hc0, hd], by rw [hc0], by rw [hc0], (by rw [hc0]; intro _ h; rw [← hc]; exact a3 h), (by rw [hc0]; intro _ h; rw [← hc]; exact b3 h)⟩ rfl (fun w h => (h.drp 1).ent fun w j => ⟨AllC.snoc j.2.2.2.2.2.1 ?_, j.1, j.2.2.2.2.2.2⟩)
  rw [hc0]
  refine ⟨fun _ => ?_, (fun h => nomatch h), (fun _ h => j.2.2.1 h), (fun _ h => j.2.1 h)⟩
  rw [kdAt_eq hi, ← hc]
  exact ⟨j.2.2.2.1, j.2.2.2.2.1⟩
end
end
end Go.Proofs.YtimemehaccgmmaaGreatDoor
