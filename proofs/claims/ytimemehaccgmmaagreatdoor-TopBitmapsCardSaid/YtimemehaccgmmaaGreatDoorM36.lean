/-
  Parts of the walks and their plain laws (G6 G7 P3 G8 E34 G9). No condition.
-/
import Derived.Test.YtimemehaccgmmaaGreatDoorM35
import Derived.Test.YtimemehaccgmmaaGreatDoorM34
import Derived.RecoverIn
import Derived.Test.YtimemehaccgmmaaGreatDoorM33
import Derived.Test.YtimemehaccgmmaaGreatDoorM11
namespace Go.Proofs.YtimemehaccgmmaaGreatDoor
open Go.RowKit
set_option maxRecDepth 100000
set_option linter.unusedVariables false
set_option linter.unusedSimpArgs false
noncomputable section
theorem stOk_of {l : List Col} {g : Cfg} {R : List (List Vl)} {A : List (Q2 × List Nat)} {B : List Nat} {T : List (Q2 × List Int)} (hB : BOk l g R) (h0 : 0 < g.split.length) (hAs : A.map (·.2) = spI g R) (hBs : B = g.split.map fun p : Int => (dic (colV R p.toNat)).length) (hTs : T.map (·.2) = metT l R l.length) : StOk A B T g.leaf.toNat R.length := by
  have hRb : R.length ≤ 60 := hB.t.br
  have hcl : ∀ i, (colV R i).length = R.length := fun i => by simp [colV]
  obtain ⟨hlf1, hlf2⟩ := (fit_ok hB.f).leaf
  have hbs := hB.bs
  have hAl : A.length = g.split.length := by have := congrArg List.length hAs; simpa [spI] using this
  have hBl : B.length = g.split.length := by rw [hBs]; simp
  have hTl : T.length ≤ l.length := by have h1 := congrArg List.length hTs; have h2 := metT_len l R l.length; rw [List.length_map] at h1; omega
  have hbl := hB.t.bl
  exact {
    k1 := by omega
    k8 := by omega
    ml := by omega
    mb := by omega
    l1 := by omega
    l2 := by omega
    nb := hRb
    sl := fun x hx => by
      have h1 : x.2 ∈ A.map (·.2) := List.mem_map.2 ⟨x, hx, rfl⟩
      rw [hAs] at h1
      obtain ⟨p, -, e⟩ := List.mem_map.1 h1
      rw [← e, idsV_len, hcl]
    tl := fun x hx => by
      have h1 : x.2 ∈ T.map (·.2) := List.mem_map.2 ⟨x, hx, rfl⟩
      rw [hTs] at h1
      exact metT_mem _ _ h1
    mm := fun x hx => by
      rw [hBs] at hx
      obtain ⟨p, -, rfl⟩ := List.mem_map.1 hx
      have := dic_len (colV R p.toNat)
      rw [hcl] at this; omega
    id := fun j x m hx hm y hy => by
      have h1 : (A.map (·.2))[j]? = some x.2 := by rw [List.getElem?_map, hx]; rfl
      rw [hAs] at h1
      rw [hBs] at hm
      rw [spI, List.getElem?_map] at h1
      rw [List.getElem?_map] at hm
      obtain ⟨p, hp, e1⟩ := Option.map_eq_some_iff.1 h1
      rw [hp] at hm
      rw [← e1] at hy
      have := (idsV_ok (c := colV R p.toNat) (by rw [hcl]; exact hRb)).lt y hy
      have e2 : m = (dic (colV R p.toNat)).length := (Option.some.inj hm).symm
      omega }
def pA (b : Bool) (n : Nat) : Option Addr := match b with | true => some ⟨n, 0, none⟩ | false => none
theorem pO_eq (b : Bool) (n : Nat) : pO b n = .pointer (pA b n) := by cases b <;> rfl
section
variable {J : List (World → Prop)} {H : List RC} {ob sb : Nat} {bq q : Q2} {bs : List Int} {S : List Sec} {s : Sec} {l : List Col} {g : Cfg} {R : List (List Vl)} {C : List Clm} {x : SgA}
theorem cTree0 (h0 : g.split.length = 0) : Tr TP 38 [pb ob] (Ctx J (opH ob sb bq bs l g R.length C x q S H)) (fun _ : Unit => .tuple #[]) (fun _ => True) (fun _ => Ctx J (opH ob sb bq bs l g R.length C x q S H)) := by
  refine en0 Tryz.func38 rfl rfl rfl (go ?_)
  exact rt () trivial rfl (fun _ h => h)
set_option maxHeartbeats 16000000 in
theorem cTreeS (hB : BOk l g R) (h0 : 0 < g.split.length) (hCl : C.length = l.length) (hC : ∀ i (h : i < C.length), ClmOk l g R i C[i]) (hsn : s.n = nmStar) (hst : x.st = .pointer none) (hb : S.length ≤ 200) (hJ : Ent J (Rs fSec 2 q.1 q.2 (s :: S))) (hJ4 : Ent J (Bn (gF' g x.a))) (hJ5 : Ent J (AllC l R C)) :
    Tr TP 38 [pb ob] (Ctx J (opH ob sb bq bs l g R.length C x q (s :: S) H)) (fun _ : Q2 × Nat × TS => .tuple #[]) (fun y => y.2.2.pu = starT l g R)
      (fun y => Ctx (Bn (tR y.2.1 g.split.length (metT l R l.length).length g.leaf.toNat y.2.2) :: Rs fSec 2 y.1.1 y.1.2 S :: J) (opH ob sb bq bs l g R.length C { x with st := pb y.2.1 } y.1 S H)) := by
  have hRb : R.length ≤ 60 := hB.t.br
  have hbl := hB.t.bl
  have hbs := hB.bs
  refine enM Tryz.func38 rfl rfl rfl (addJ hJ5 (addJ (fun w j => hJ4 w j.2) (addJ (fun w j => hJ w j.2.2) (go ?_))))
  rw [show (ByteArray.mk #[115, 116, 97, 114]) = s.n from hsn.symm]
  refine cg (cNext (S := S) (by omega)) fun q1 _ => ?_
  have hspl : ∀ k (h : k < g.split.length), dimB l g.split[k] = true := fun k h => (spT_at (fit_ok hB.f).spl k h h).1
  have hpc : ∀ p ∈ g.split, ∃ n : Nat, p = (n : Int) ∧ n < l.length ∧ dimB l p = true := fun p hp => by
    obtain ⟨k, hk, rfl⟩ := List.getElem_of_mem hp
    have h1 := hspl k hk
    have h2 := dimB_lt h1
    exact ⟨g.split[k].toNat, by omega, by omega, h1⟩
  refine pre (fun w h => Ctx.nl (f := fNs (α := Nat)) (sz := 1) (e := 24) (Ctx.nl (f := fj) (sz := 1) (e := 3) h)) ?_
  refine fr 4 rfl (fr 4 rfl (fr 4 rfl ?_))
  refine lpF (X := Nat × Q2 × Q2 × List Nat × List (Q2 × List Nat) × List Nat) (fun y => (136, mks y.2.2.2.1)) (fun y => y.1 ≤ g.split.length ∧ y.2.2.2.2.1.map (·.2) = (g.split.take y.1).map (fun p : Int => idsV (colV R p.toNat)) ∧ y.2.2.2.2.2 = (g.split.take y.1).map (fun p : Int => (dic (colV R p.toNat)).length))
    (fun (k, qA, qB, _, A, B) => [(0, pb ob), (2, .slice qA.1 A.length qA.2), (3, .slice qB.1 B.length qB.2), (4, .slice none 0 0), (36, .slice x.a.s.1 g.split.length x.a.s.2), (37, .int .i64 g.split.length), (38, .int .i64 k)])
    (fun (k, qA, qB, Ds, A, B) => Ctx (Rs fi 1 x.a.s.1 x.a.s.2 g.split :: AllR fj 1 A :: AllC l R C :: Bn (gF' g x.a) :: Rs fSec 2 q1.1 q1.2 S :: J) (pt ob 101 (opC sb bq bs q1 S) :: pt sb 99 (sgC l g R.length C x) :: sl fCl 6 106 x.cq.1 x.cq.2 C :: sl fNs 1 24 qA.1 qA.2 A :: sl fj 1 3 qB.1 qB.2 B :: (dfs Ds ++ H)))
    (fun y => g.split.length - y.1) (0, (none, 0), (none, 0), [], [], []) ⟨by dsimp only; omega, rfl, rfl⟩ rfl rfl (fun w h => h.ent fun w j => ⟨j.2.2.1.out.2.2.1, AllR.nil, j.2.2.2.1, j.2.2.1, j.1, j.2.2.2.2⟩) fun (k, qA, qB, Ds, A, B) ⟨hk, hA', hB'⟩ => ?_
  dsimp only at hk hA' hB'
  have hAl : A.length = k := by have := congrArg List.length hA'; rw [List.length_map, List.length_map, List.length_take] at this; omega
  have hBl : B.length = k := by rw [hB', List.length_map, List.length_take]; omega
  refine go ?_
  refine ⟨fun h1 => ?_, fun h1 => ?_⟩
  · have hk1 : k < g.split.length := by omega
    obtain ⟨p, hp, hpl, hpd⟩ := hpc g.split[k] (List.getElem_mem hk1)
    refine go ?_
    rw [hp]
    have hpC : p < C.length := by omega
    have hcd : C[p].dim = true := by rw [(hC p hpC).dim, ← hp]; exact hpd
    refine go ?_
    rw [hcd, show pO true C[p].f.1 = pb C[p].f.1 from rfl]
    refine mk0 fj 0 fun b => ?_
    refine go ?_
    intro b8
    refine ca (cFAll (x := C[p].f)) fun bf _ => ?_
    refine go ?_
    obtain ⟨ids, hids⟩ : ∃ ids, ids = idsV (colV R p) := ⟨_, rfl⟩
    obtain ⟨m, hm⟩ : ∃ m, m = (dic (colV R p)).length := ⟨_, rfl⟩
    have hcl : (colV R p).length = R.length := by simp [colV]
    have hil : ids.length = R.length := by rw [hids, idsV_len]; exact hcl
    have hml : m ≤ 60 := by have := dic_len (colV R p); omega
    have hI := idsV_ok (c := colV R p) (by omega)
    have hFw : Ent (AllC l R C :: J) (Bn (Fwd C[p].f ids m)) := fun w j => by rw [hids, hm]; exact ((j.1 p hpC).1 hcd).2
    refine rf (X := Nat × Q2) ids.length (fun i y => y.1 = i) (fun (i, q) => pt b8 24 [.slice q.1 i q.2] :: sl fj 1 3 q.1 q.2 (ids.take i) :: pt ob 101 (opC sb bq bs q1 S) :: pt sb 99 (sgC l g R.length C x) :: sl fCl 6 106 x.cq.1 x.cq.2 C :: sl fNs 1 24 qA.1 qA.2 A :: sl fj 1 3 qB.1 qB.2 B :: (dfs Ds ++ H)) (fun i => .int .i64 (i : Nat)) (fun i => .int .i64 (ids.getD i 0 : Nat))
      [] (fun i => [(8, pb b8), (10, .int .i64 (ids.getD i 0 : Nat))]) (0, some ⟨b, 0, none⟩, R.length) rfl rfl (fun _ h => h) (ents Tryz.func180 rfl rfl) rfl rfl ?_ ?_ ?_ fun D y hy => ?_
    · intro lb D r hy
      exact it180 (p := fun (i : Nat) (y : Nat × Q2) => y.1 = i) (x0 := (0, some ⟨b, 0, none⟩, R.length)) rfl (m := m) (ids := ids) (x := C[p].f) (b := bf) (by omega) (by omega) (by rw [hids, hm]; exact hI.lt) (by exact fun w j => hFw w ⟨j.2.2.2.1, j.2.2.2.2.2.2⟩) (by exact fun w j => j.1) lb D r hy
    · intro i hi lb w
      exact bi_reg (oi_v rfl rfl rfl rfl (oi_nil fun a w1 ha hc => ⟨rfl, hc, ha.cov rfl⟩))
    · rintro i hi ⟨i', q⟩ rfl lb D r
      dsimp only
      refine bi_block (bi_reg ?_)
      refine oi_s rfl (fun c e => nomatch e) rfl (oLd (k := 2) rfl rfl rfl rfl) fun _ _ => ?_
      refine oi_v rfl rfl rfl rfl ?_
      refine oi_s rfl (fun c e => nomatch e) rfl (oBs rfl rfl rfl) fun bb _ => ?_
      refine oi_s rfl (fun c e => nomatch e) rfl (oAp1 (k := 3) (f := fj) (y := ids.getD i' 0) rfl rfl rfl (by rw [List.length_take]; omega) rfl rfl rfl rfl (by rw [List.length_take]; omega) (fun _ => rfl)) fun q2 _ => ?_
      refine oi_s rfl (fun c e => nomatch e) rfl (oSt (k := 2) rfl rfl rfl rfl rfl rfl rfl rfl) fun _ _ => ?_
      refine oi_nil fun a w ha hc => ?_
      refine ⟨rfl, (i' + 1, q2), rfl, ?_⟩
      dsimp only
      have e : ids.take (i' + 1) = ids.take i' ++ [ids.getD i' 0] := by rw [List.take_add_one]; simp [hi]
      have e2 : i' + 1 = (ids.take i' ++ [ids.getD i' 0]).length := by rw [List.length_append, List.length_take, List.length_singleton]; omega
      rw [e, e2]
      exact hc
    · obtain ⟨i, q⟩ := y
      dsimp only at hy ⊢
      subst hy
      rw [List.take_length]
      refine fr 2 rfl (fz (fr 1 rfl (fr 5 rfl (go ?_))))
      intro bb
      refine ap1 (f := fNs (α := Nat)) (q, ids) fun qA2 => ?_
      refine go ?_
      refine ca (cFMany (x := C[p].f) (ids := ids) (m := m) (hJ := by exact fun w j => hFw w ⟨j.2.2.2.2.1, j.2.2.2.2.2.2.2⟩)) fun _ _ => ?_
      refine fr 6 rfl (go ?_)
      intro bc qB2
      refine fr 2 rfl (dr (fr 2 rfl (fr 1 rfl (fr 2 rfl (fr 5 rfl (fr 5 rfl (fr 5 rfl ?_)))))))
      refine enF (k + 1, qA2, qB2, D :: Ds, A ++ [(q, ids)], B ++ [m]) ⟨⟨by dsimp only; omega, ?_, ?_⟩, by dsimp only; omega⟩ rfl rfl (fun w h => h.ent fun w j => ⟨j.2.2.1, j.2.2.2.1.snoc j.1, j.2.2.2.2⟩)
      · dsimp only
        rw [← List.take_append_getElem hk1, List.map_append, List.map_append, ← hA', hp]
        simp [hids]
      · dsimp only
        rw [← List.take_append_getElem hk1, List.map_append, ← hB', hp]
        simp [hm]
  · obtain rfl : k = g.split.length := by omega
    rw [List.take_length] at hA' hB'
    refine go ?_
    refine fr 3 rfl (fz (fr 3 rfl (fz ?_)))
    refine pre (fun w h => Ctx.nl (f := fNs (α := Int)) (sz := 1) (e := 54) h) ?_
    refine lp (X := Nat × Q2 × List (Q2 × List Int)) (fun y => y.1 ≤ l.length ∧ y.2.2.map (·.2) = metT l R y.1)
      (fun (i, qT, T) => [(0, pb ob), (2, .slice qA.1 A.length qA.2), (3, .slice qB.1 B.length qB.2), (4, .slice qT.1 T.length qT.2), (85, .slice x.cq.1 C.length x.cq.2), (86, .int .i64 C.length), (87, .int .i64 i)])
      (fun (i, qT, T) => Ctx (AllR fi 1 T :: AllC l R C :: Rs fNs 1 qA.1 qA.2 A :: AllR fj 1 A :: Rs fj 1 qB.1 qB.2 B :: Bn (gF' g x.a) :: Rs fSec 2 q1.1 q1.2 S :: J) (sl fNs 1 54 qT.1 qT.2 T :: pt ob 101 (opC sb bq bs q1 S) :: pt sb 99 (sgC l g R.length C x) :: sl fCl 6 106 x.cq.1 x.cq.2 C :: (dfs Ds ++ H)))
      (fun y => l.length - y.1) (0, (none, 0), []) ⟨Nat.zero_le _, rfl⟩ rfl (fun w h => h.ent fun w j => ⟨AllR.nil, j.2.2.2.2.1, j.2.1, j.2.2.2.1, j.1, j.2.2.2.2.2⟩) fun (i, qT, T) ⟨hi, hT⟩ => ?_
    dsimp only at hi hT
    have hTl : T.length ≤ i := by have := congrArg List.length hT; have := metT_len l R i; rw [List.length_map] at *; omega
    refine go ?_
    refine ⟨fun h2 => ?_, fun h2 => ?_⟩
    · have hi1 : i < C.length := by omega
      have hdm := (hC i hi1).dim
      refine go ?_
      intro b12
      rw [pO_eq, pO_eq, pO_eq, pO_eq, pO_eq, pO_eq]
      cases hd : C[i].dim with
      | true =>
        refine go ?_
        refine en (i + 1, qT, T) ⟨⟨by dsimp only; omega, ?_⟩, by dsimp only; omega⟩ rfl (fun _ h => h.rest)
        dsimp only
        rw [hT, metT, ← hdm, hd, if_pos rfl, List.append_nil]
      | false =>
        refine go ?_
        obtain ⟨cs, hcs⟩ : ∃ cs, cs = (colV R i).map (·.n) := ⟨_, rfl⟩
        have hLl : cs.length = R.length := by rw [hcs, List.length_map]; simp [colV]
        have hM : ∀ {J H} (hJ : Ent J (Bn (Met C[i].m cs))), Tr TP 103 [pb C[i].m.1, .int .i64 0, .int .i64 R.length] (Ctx J H) (fun q : Q2 => .tuple #[.slice q.1 cs.length q.2, .int .i64 0]) (fun _ => True) (fun q => Ctx J (sl fi 1 2 q.1 q.2 cs :: H)) := by
          intro J H hJ
          rw [← hLl]
          exact cMSome (hJ := hJ) (by omega)
        refine ca (hM (by exact fun w j => by rw [hcs]; exact (j.2.1 i hi1).2.1 hd)) fun qn _ => ?_
        refine ⟨fun _ _ w h => allF_all fun q hq => by
          simp only [List.mem_cons, List.not_mem_nil, or_false] at hq
          repeat' (rcases hq with hq | hq)
          all_goals (try subst hq)
          all_goals first | exact trivial | exact h.hs.1 | exact h.hs.2.1 | exact h.hs.2.2.1 | exact h.hs.2.2.2.1 | exact h.hs.2.2.2.2.1, ?_⟩
        refine go ?_
        intro bb
        refine fr 1 rfl (fz (fr 1 rfl (dr ?_)))
        refine ap1 (f := fNs (α := Int)) (qn, cs) fun qT2 => ?_
        refine go ?_
        refine en (i + 1, qT2, T ++ [(qn, cs)]) ⟨⟨by dsimp only; omega, ?_⟩, by dsimp only; omega⟩ rfl (fun _ h => h.ent fun w j => ⟨j.2.1.snoc j.1, j.2.2⟩)
        dsimp only
        rw [List.map_append, hT, metT, ← hdm, hd, hcs]
        rfl
    · obtain rfl : i = l.length := by omega
      refine go ?_
      have hlf : g.leaf = ((g.leaf.toNat : Nat) : Int) := by have := (fit_ok hB.f).leaf; omega
      rw [hlf]
      refine fzc ?_
      refine cg (cStOf (sp := A) (many := B) (ms := T) (leaf := g.leaf.toNat) (n := R.length) (stOk_of hB h0 hA' hB' hT)) fun y hy => ?_
      refine cg cMust fun _ _ => ?_
      refine pre (fun w h => h.perm (List.perm_append_comm_assoc [_, _, _] (dfs Ds) H)) ?_
      refine rcMe Ds (q1, y) ?_ (fun w h => ?_) .nil
      · have h5 := hy.1
        have e1 : A.map (·.2) = spI g R := hA'
        have e2 : A.length = g.split.length := hAl
        rw [e1, hT, e2] at h5
        exact h5
      · have e2 : A.length = g.split.length := hAl
        have e3 : T.length = (metT l R l.length).length := by have := congrArg List.length hT; rwa [List.length_map] at this
        have h5 := h.ent (J' := Bn (tR y.1 A.length T.length g.leaf.toNat y.2) :: Rs fSec 2 q1.1 q1.2 S :: J) fun w j => ⟨j.1, j.2.2.2.2.2.2.2.2⟩
        rw [e2, e3] at h5
        exact h5
end
/-- A segment of rows. -/
structure SgOk (l : List Col) (g : Cfg) (R : List (List Vl)) (C : List Clm) : Prop where
  b : BOk l g R
  len : C.length = l.length
  ok : ∀ i (h : i < C.length), ClmOk l g R i C[i]
/-- What is known of it. -/
def sgF (sb : Nat) (l : List Col) (g : Cfg) (R : List (List Vl)) (C : List Clm) (x : SgA) : List (World → Prop) := [(pt sb 99 (sgC l g R.length C x)).A, Rs fCl 6 x.cq.1 x.cq.2 C, AllC l R C, Rs fC 2 x.lq.1 x.lq.2 l, Bn (gF' g x.a)]
theorem at_val {l : List Col} {g : Cfg} {R : List (List Vl)} (h : BOk l g R) {i k : Nat} (hi : i < R.length) (hk : k < l.length) : ∃ hr : k < R[i].length, (colV R k)[i]'(by simpa [colV] using hi) = R[i][k] ∧ R[i].length = l.length := by
  have h1 := (h.o.2 R[i] (List.getElem_mem hi)).1.1
  exact ⟨by omega, by simp [colV, atV, h1, hk], h1⟩
section
variable {J : List (World → Prop)} {H : List RC} {sb : Nat} {l : List Col} {g : Cfg} {R : List (List Vl)} {C : List Clm} {x : SgA}
theorem cSNone (h0 : 1 ≤ l.length) (hJ : Ent J (pt sb 99 (sgC l g R.length C x)).A) : Tr TP 42 [pb sb] (Ctx J H) (fun _ : Unit => .bool false) (fun _ => True) (fun _ => Ctx J H) := by
  refine en0 Tryz.func42 rfl rfl rfl (addJ hJ (go ?_))
  rw [show decide ((l.length : Int) = 0) = false from decide_eq_false (by omega)]
  refine go ?_
  exact rt () trivial rfl (fun _ h => h.ent fun _ j => j.2)
theorem cSRows (h0 : 1 ≤ l.length) (hJ : Ent J (pt sb 99 (sgC l g R.length C x)).A) : Tr TP 9 [pb sb] (Ctx J H) (fun _ : Unit => .int .i64 R.length) (fun _ => True) (fun _ => Ctx J H) := by
  refine en0 Tryz.func9 rfl rfl rfl (addJ hJ (go ?_))
  refine cg (cSNone h0 (fun w j => j.1)) fun _ _ => ?_
  exact rt () trivial rfl (fun _ h => h.ent fun _ j => j.2)
theorem cSgAt (h0 : 1 ≤ l.length) {i : Nat} (hi : i < C.length) (hJ : Ent J (pt sb 99 (sgC l g R.length C x)).A) (hJ2 : Ent J (Rs fCl 6 x.cq.1 x.cq.2 C)) : Tr TP 41 [pb sb, .int .i64 i] (Ctx J H) (fun _ : Unit => .agg #[.pointer (pA C[i].dim C[i].d.1), .pointer (pA C[i].dim C[i].f.1), .pointer (pA (!C[i].dim) C[i].m.1), .pointer (pA (C[i].dim && C[i].iv) C[i].v.1), .pointer (pA (C[i].dim && C[i].rg) C[i].r.1), .pointer (pA (C[i].dim && C[i].sr) C[i].s.1)]) (fun _ => True) (fun _ => Ctx J H) := by
  refine en0 Tryz.func41 rfl rfl rfl (addJ hJ (addJ (fun w j => hJ2 w j.2) (go ?_)))
  intro b4
  refine cg (cSNone h0 (fun w j => j.2.1)) fun _ _ => ?_
  rw [pO_eq, pO_eq, pO_eq, pO_eq, pO_eq, pO_eq]
  refine go ?_
  exact rv () trivial (fun _ h => h.rest.ent fun _ j => j.2.2)
theorem cSDict (h0 : 1 ≤ l.length) {i : Nat} (hi : i < C.length) (hJ : Ent J (pt sb 99 (sgC l g R.length C x)).A) (hJ2 : Ent J (Rs fCl 6 x.cq.1 x.cq.2 C)) : Tr TP 8 [pb sb, .int .i64 i] (Ctx J H) (fun _ : Unit => .pointer (pA C[i].dim C[i].d.1)) (fun _ => True) (fun _ => Ctx J H) := by
  refine en0 Tryz.func8 rfl rfl rfl (go ?_)
  refine cg (cSgAt h0 hi hJ hJ2) fun _ _ => ?_
  exact rt () trivial rfl (fun _ h => h)
theorem cSFwd (h0 : 1 ≤ l.length) {i : Nat} (hi : i < C.length) (hJ : Ent J (pt sb 99 (sgC l g R.length C x)).A) (hJ2 : Ent J (Rs fCl 6 x.cq.1 x.cq.2 C)) : Tr TP 10 [pb sb, .int .i64 i] (Ctx J H) (fun _ : Unit => .pointer (pA C[i].dim C[i].f.1)) (fun _ => True) (fun _ => Ctx J H) := by
  refine en0 Tryz.func10 rfl rfl rfl (go ?_)
  refine cg (cSgAt h0 hi hJ hJ2) fun _ _ => ?_
  exact rt () trivial rfl (fun _ h => h)
theorem cSInv (h0 : 1 ≤ l.length) {i : Nat} (hi : i < C.length) (hJ : Ent J (pt sb 99 (sgC l g R.length C x)).A) (hJ2 : Ent J (Rs fCl 6 x.cq.1 x.cq.2 C)) : Tr TP 12 [pb sb, .int .i64 i] (Ctx J H) (fun _ : Unit => .pointer (pA (C[i].dim && C[i].iv) C[i].v.1)) (fun _ => True) (fun _ => Ctx J H) := by
  refine en0 Tryz.func12 rfl rfl rfl (go ?_)
  refine cg (cSgAt h0 hi hJ hJ2) fun _ _ => ?_
  exact rt () trivial rfl (fun _ h => h)
theorem cSRng (h0 : 1 ≤ l.length) {i : Nat} (hi : i < C.length) (hJ : Ent J (pt sb 99 (sgC l g R.length C x)).A) (hJ2 : Ent J (Rs fCl 6 x.cq.1 x.cq.2 C)) : Tr TP 16 [pb sb, .int .i64 i] (Ctx J H) (fun _ : Unit => .pointer (pA (C[i].dim && C[i].rg) C[i].r.1)) (fun _ => True) (fun _ => Ctx J H) := by
  refine en0 Tryz.func16 rfl rfl rfl (go ?_)
  refine cg (cSgAt h0 hi hJ hJ2) fun _ _ => ?_
  exact rt () trivial rfl (fun _ h => h)
set_option maxHeartbeats 4000000 in
theorem cSRow (hS : SgOk l g R C) {i : Nat} (hi : i < R.length) (hJ : Ent J (Bn (sgF sb l g R C x))) : Tr TP 104 [pb sb, .int .i64 i] (Ctx J H) (fun q : Q2 => .tuple #[.slice q.1 R[i].length q.2, .int .i64 0]) (fun _ => True) (fun q => Ctx J (sl fV 3 68 q.1 q.2 R[i] :: H)) := by
  have hRb : R.length ≤ 60 := hS.b.t.br
  have hbl := hS.b.t.bl
  have h0 := (fit_ok hS.b.f).len.1
  have hCl := hS.len
  refine en0 Tryz.func104 rfl rfl rfl (addJ (fun w j => (hJ w j).out.2.2.1) (addJ (fun w j => (hJ w j.2).out.2.1) (addJ (fun w j => (hJ w j.2.2).out.1) (go ?_))))
  refine cg (cSNone h0 (fun w j => j.1)) fun _ _ => ?_
  have hrl := (hS.b.o.2 R[i] (List.getElem_mem hi)).1.1
  refine pre (fun w h => Ctx.nl (f := fV) (sz := 3) (e := 68) h) ?_
  refine lp (X := Nat × Q2) (fun y => y.1 ≤ l.length) (fun (k, q) => [(0, pb sb), (1, .int .i64 i), (5, .int .i64 0), (6, .slice q.1 (R[i].take k).length q.2), (32, .slice x.cq.1 C.length x.cq.2), (33, .int .i64 C.length), (34, .int .i64 k)])
    (fun (k, q) => Ctx ((pt sb 99 (sgC l g R.length C x)).A :: Rs fCl 6 x.cq.1 x.cq.2 C :: AllC l R C :: J) (sl fV 3 68 q.1 q.2 (R[i].take k) :: H))
    (fun y => l.length - y.1) (0, (none, 0)) (Nat.zero_le _) rfl (fun _ h => h) fun (k, q) hk => ?_
  dsimp only at hk
  have hkl : (R[i].take k).length = k := by rw [List.length_take]; omega
  refine go ?_
  refine ⟨fun h2 => ?_, fun h2 => ?_⟩
  · have hk1 : k < C.length := by omega
    have hk2 : k < l.length := by omega
    have hdm := (hS.ok k hk1).dim
    obtain ⟨hr, hv, -⟩ := at_val hS.b hi hk2
    have hcl : (colV R k).length = R.length := by simp [colV]
    have hcol := hS.b.col hk2 R[i][k] (by rw [← hv]; exact List.getElem_mem _)
    have e1 : R[i].take (k + 1) = R[i].take k ++ [R[i][k]] := (List.take_append_getElem hr).symm
    refine go ?_
    intro b8
    rw [pO_eq, pO_eq, pO_eq, pO_eq, pO_eq, pO_eq]
    cases hd : C[k].dim with
    | true =>
      refine go ?_
      obtain ⟨D, hD⟩ : ∃ D, D = dic (colV R k) := ⟨_, rfl⟩
      obtain ⟨ids, hids⟩ : ∃ ids, ids = idsV (colV R k) := ⟨_, rfl⟩
      have hil : ids.length = R.length := by rw [hids, idsV_len, hcl]
      have hDl : D.length ≤ 60 := by have := dic_len (colV R k); rw [hD]; omega
      have hii : i < ids.length := by omega
      have hg : ids[i] = idV D R[i][k] := by rw [← hv]; simp [hids, idsV, hD]
      obtain ⟨hj0, hjv0⟩ := idV_ok (D := D) (v := R[i][k]) (by rw [hD]; exact (dic_mem _ _).2 (by rw [← hv]; exact List.getElem_mem _))
      have hj : ids[i] < D.length := by rw [hg]; exact hj0
      have hjv : D[ids[i]] = R[i][k] := by simp only [hg]; exact hjv0
      refine ca (cFGet (x := C[k].f) (ids := ids) (m := D.length) (i := i) (hJ := by exact fun w j => by rw [hids, hD]; exact ((j.2.2.1 k hk1).1 hd).2)) fun _ _ => ?_
      refine go ?_
      refine ca (cDValue (x := C[k].d) (kd := kdAt l k) (D := D) (i := ids[i]) (hJ := by exact fun w j => by rw [hD]; exact ((j.2.2.1 k hk1).1 hd).1) (hk := by rw [kdAt_eq hk2]; exact kdC_or)) fun _ _ => ?_
      rw [hjv]
      refine go ?_
      intro b13 bb q2
      refine en (k + 1, q2) ⟨by dsimp only; omega, by dsimp only; omega⟩ (by dsimp only; rw [e1]; rfl) (fun w h => by dsimp only; rw [e1]; exact h.rest.rest)
    | false =>
      refine go ?_
      obtain ⟨cs, hcs⟩ : ∃ cs, cs = (colV R k).map (·.n) := ⟨_, rfl⟩
      have hii : i < cs.length := by rw [hcs, List.length_map]; omega
      have hcv : cs[i] = R[i][k].n := by subst hcs; rw [List.getElem_map, hv]
      refine ca (cMGet (x := C[k].m) (l := cs) (i := i) (hJ := by exact fun w j => by rw [hcs]; exact (j.2.2.1 k hk1).2.1 hd) (hb := by rw [hcs, List.length_map]; omega)) fun _ _ => ?_
      rw [hcv]
      refine fr 1 rfl (go ?_)
      intro bb
      refine ap1 (f := fV) R[i][k] (hv := ?_) fun q2 => ?_
      refine go ?_
      refine en (k + 1, q2) ⟨by dsimp only; omega, by dsimp only; omega⟩ (by dsimp only; rw [e1]; rfl) (fun w h => by dsimp only; rw [e1]; exact h.drp 1)
      have hk3 : R[i][k].k = 1 := by
        rw [hcol.2.1]
        have h5 : dimB l (k : Nat) = false := by rw [← hdm]; exact hd
        have : l[k].k ≠ 2 := fun h6 => by simp [dimB, hk2, h6] at h5
        rw [kdC, if_neg this]
      have hs3 : R[i][k].s = ByteArray.mk #[] := by
        rcases hcol.1.k with h6 | h6
        · exact h6.2
        · omega
      simp only [fV, hk3, hs3]
      rfl
  · obtain rfl : k = l.length := by omega
    refine go ?_
    have e2 : R[i].take l.length = R[i] := List.take_of_length_le (by omega)
    dsimp only
    rw [e2]
    exact rt q trivial rfl (fun _ h => h.ent fun _ j => j.2.2.2)
end
theorem hasB_nrm {fl : List Bool} {n i : Nat} (h : i < n) : hasB ((List.range n).map fun j : Nat => hasB fl (j : Int)) (i : Nat) = hasB fl (i : Nat) := by
  simp [hasB, h]
theorem schB_nrm (l : List Col) (g : Cfg) : schB l (nrm' g l.length) = schB l g := by
  unfold schB
  have : (List.range l.length).map (flB (nrm' g l.length)) = (List.range l.length).map (flB g) := List.map_congr_left fun i hi => by
    have h := List.mem_range.1 hi
    simp only [flB, nrm', hasB_nrm h]
  rw [this]; rfl
theorem colS_nrm (l : List Col) (g : Cfg) (R : List (List Vl)) : ∀ i, i ≤ l.length → colS l (nrm' g l.length) R i = colS l g R i
  | 0, _ => rfl
  | i + 1, h => by
    have h1 : i < l.length := by omega
    rw [colS, colS, colS_nrm l g R i (by omega)]
    simp only [nrm', hasB_nrm h1]
    rfl
theorem imgS_nrm (l : List Col) (g : Cfg) (R : List (List Vl)) : imgS l (nrm' g l.length) R = imgS l g R := by
  unfold imgS
  rw [schB_nrm, colS_nrm l g R _ (Nat.le_refl _)]
  rfl
theorem BOk.nrm {l : List Col} {g : Cfg} {R : List (List Vl)} (h : BOk l g R) : BOk l (nrm' g l.length) R where
  f := fits_nrm h.f
  o := h.o
  t := ⟨sok_nrm h.f, h.t.bl, h.t.br, h.t.bw, h.t.bt⟩
  n := h.n
  bi := by have := h.t.bl; simp [nrm']; exact this
  bg := by have := h.t.bl; simp [nrm']; exact this
  bs := h.bs
theorem sortT_idem (g : Cfg) (L : List (List Vl)) : sortT g (sortT g L) = sortT g L := by
  unfold sortT
  split
  · exact srtT_idem _ _
  · rfl
section
variable {J : List (World → Prop)} {H : List RC} {ob sb : Nat} {bq q : Q2} {bs : List Int} {S : List Sec} {l : List Col} {g : Cfg} {R : List (List Vl)} {C : List Clm} {x : SgA}
set_option maxHeartbeats 4000000 in
theorem cWhole (hS : SgOk l g R C) (hsr : sortT g R = R) (hb : bs = secsB (imgS l g R)) (hT : Ent J TabT) (hJ : Ent J (Bn (sgF sb l g R C x))) (hJ2 : Ent J (pt ob 101 (opC sb bq bs q S)).A) (hJ3 : Ent J (Rs f8 1 bq.1 bq.2 bs)) : Tr TP 40 [pb ob] (Ctx J H) (fun _ : Unit => .tuple #[]) (fun _ => True) (fun _ => Ctx J H) := by
  have hRb : R.length ≤ 60 := hS.b.t.br
  have hbl := hS.b.t.bl
  refine en0 Tryz.func40 rfl rfl rfl (addJ (fun w j => (hJ w j).out.1) (addJ (fun w j => hJ2 w j.2) (go ?_)))
  refine mk fRw ((none, 0), []) fun b => ?_
  refine go ?_
  refine lp (X := Nat × List Rw) (fun y => y.1 ≤ R.length ∧ y.2.map (·.2) = R.take y.1) (fun (k, W) => [(0, pb ob), (2, .slice (some ⟨b, 0, none⟩) (W ++ List.replicate (R.length - k) ((none, 0), [])).length R.length), (15, .int .i64 R.length), (16, .int .i64 k)])
    (fun (k, W) => Ctx (AllR fV 3 W :: (pt ob 101 (opC sb bq bs q S)).A :: (pt sb 99 (sgC l g R.length C x)).A :: J) (sl fRw 1 61 (some ⟨b, 0, none⟩) R.length (W ++ List.replicate (R.length - k) ((none, 0), [])) :: H))
    (fun y => R.length - y.1) (0, []) ⟨Nat.zero_le _, rfl⟩ (by simp) (fun w h => h.ent fun w j => ⟨AllR.nil, j.1, j.2.1, j.2.2⟩) fun (k, W) ⟨hk, hW⟩ => ?_
  dsimp only at hk hW
  have hWl : W.length = k := by have := congrArg List.length hW; rw [List.length_map, List.length_take] at this; omega
  refine go ?_
  refine ⟨fun h2 => ?_, fun h2 => ?_⟩
  · have hk1 : k < R.length := by omega
    refine go ?_
    refine ca (cSRow (x := x) hS hk1 (hJ := by exact fun w j => hJ w j.2.2.2)) fun qr _ => ?_
    refine fz (go ?_)
    have hkl : k < (W ++ List.replicate (R.length - k) ((none, 0), [])).length := by rw [List.length_append, List.length_replicate]; omega
    refine hA0 rfl rfl (oSe0 (f := fRw) (k := 0) (i := k) (y := (qr, R[k])) rfl rfl rfl rfl hkl rfl rfl rfl rfl) rfl ?_
    have e2 : (W ++ List.replicate (R.length - k) ((none, 0), [])).set k (qr, R[k]) = (W ++ [(qr, R[k])]) ++ List.replicate (R.length - (k + 1)) ((none, 0), []) := by
      rw [List.set_append_right _ _ (by omega), hWl, Nat.sub_self, show R.length - k = (R.length - (k + 1)) + 1 by omega, List.replicate_succ, List.set_cons_zero, List.append_assoc]
      rfl
    have e3 : (W ++ List.replicate (R.length - k) ((none, 0), [])).length = ((W ++ [(qr, R[k])]) ++ List.replicate (R.length - (k + 1)) ((none, 0), [])).length := by simp; omega
    dsimp only
    rw [e2, e3]
    refine go ?_
    refine en (k + 1, W ++ [(qr, R[k])]) ⟨⟨by dsimp only; omega, ?_⟩, by dsimp only; omega⟩ rfl (fun w h => h.ent fun w j => ⟨j.2.1.snoc j.1, j.2.2⟩)
    dsimp only
    rw [List.map_append, hW, ← List.take_append_getElem hk1]
    rfl
  · obtain rfl : k = R.length := by omega
    refine go ?_
    dsimp only
    have e1 : W ++ List.replicate (R.length - R.length) ((none, 0), []) = W := by simp
    rw [e1]
    rw [List.take_length] at hW
    have hBl : ∀ {J H ad2 cap2} (hT : Ent J TabT) (hJ : Ent J (Rs fC 2 x.lq.1 x.lq.2 l)) (hJ2 : Ent J (Bn (gF' g x.a))) (hJ3 : Ent J (Rs fRw 1 ad2 cap2 W)) (hJ4 : Ent J (AllR fV 3 W)),
        Tr TP 6 [.slice x.lq.1 l.length x.lq.2, gA' g x.a, .slice ad2 W.length cap2] (Ctx J H) (fun q : Q2 => .tuple #[.slice q.1 bs.length q.2, .int .i64 0]) (fun _ => True) (fun q => Ctx J (sl f8 1 5 q.1 q.2 bs :: H)) := by
      intro J H ad2 cap2 h1 h2 h3 h4 h5
      have h6 := cBuildOk (H := H) (g := g) (rows := W) (a := x.a) (by rw [hW]; exact hS.b) h1 h2 h3 h4 h5
      rw [hW, hsr, ← hb] at h6
      exact h6
    refine fzc ?_
    refine ca (hBl (by exact fun w j => hT w j.2.2.2.2) (by exact fun w j => (hJ w j.2.2.2.2).out.2.2.2.1) (by exact fun w j => (hJ w j.2.2.2.2).out.2.2.2.2.1) (by exact fun w j => j.1) (by exact fun w j => j.2.1)) fun qi _ => ?_
    refine ⟨fun _ _ w h => allF_all fun q hq => by
      simp only [List.mem_cons, List.not_mem_nil, or_false] at hq
      repeat' (rcases hq with hq | hq)
      all_goals (try subst hq)
      all_goals first | exact trivial | exact h.js.2.2.1 | exact h.js.2.2.2.1, ?_⟩
    refine go ?_
    refine fzc (cg (cEqB (hJ := fun w j => j.1) (hJ2 := fun w j => hJ3 w j.2.2.2.2.2)) fun _ _ => ?_)
    refine cg cSo fun _ _ => ?_
    exact rtE () trivial rfl (fun _ h => h.ent fun _ j => j.2.2.2.2.2)
end
section
variable {P : Program} {k : Nat} {ops : Array Oper} {o : Oper} {l : List Oper} {s : List KI} {L : Env} {C : World → Prop} {Q : Exit → Act → World → Prop} {ds : List Deferred}
/-- A call that is deferred. -/
theorem hdf {x : Operand} {fn : Fn} {cap : Array Value} (h : HK P (k, { target := .fn fn cap, args := #[] } :: ds) (.ops ops l :: s) L C Q) (ho : o.op = .defer ⟨.value x, ⟨[]⟩, ⟨[]⟩⟩ := by rfl) (hxv : ev L x = some (.func fn #[] cap) := by rfl) (hg : gOk o ops L = some true := by rfl) (hd : o.dst = none := by rfl) : HK P (k, ds) (.ops ops (o :: l) :: s) L C Q := by
  intro a w ha hc
  refine wpList_step fun K hK => ?_
  rw [if_pos (gOk_sound hg ha.get)]
  unfold Oper.wp
  have hx1 := ev_eval ha.get hxv
  have e1 : (execOp a.eval o).run P w = .ok (.defer { target := .fn fn cap, args := #[] }) w := by
    simp [execOp, ho, resolve, hx1, Sem.run_bind, Deferred.ofValue]
  rw [e1]
  refine hK _ _ (h _ _ ?_ hc)
  rw [hd]
  exact ⟨ha.size, by show _ :: a.defers = _; rw [ha.defs], ha.get⟩
theorem hkw {n : Fr} {c : Code} {a : Act} {w : World} (hk : Kn n L a) (hc : C w) (h : HK P n [.code c] L C Q) : c.wp P Q a w := wp_mono (h a w hk hc) fun e a w q => by cases e <;> exact q
end
theorem d33 {b2 b3 : Nat} {w : World} : CallsDIn Fence.wide 0 TP 33 #[pb b2, pb b3] .returning w fun e u' w' => u' = .returning ∧ (∃ v, e = .returned v) ∧ w' = w := by
  refine callsDIn_of_wpSIn Tryz.func33 rfl trivial fun c₀ cs hu => ?_
  refine wpSIn_seq ?_
  refine wpSIn_region ?_
  have e0 : recoverD (c₀ :: cs) = none := by simp [recoverD, hu]
  simp [wpOpsSIn, Oper.about, execOp, resolve, Sem.run_bind, e0, Region.wanted, invoke, Fence.wide, Exit.thenS]
  have e1 : (builtin .recover #[] 20 #[] #[]).run TP w = .ok .recover w := rfl
  rw [e1]
  dsimp only
  change Code.wpSIn Fence.wide 0 TP _ _ _ _ _
  refine wpSIn_of_wpIn rfl ((wpIn_wide (n := 0)).2 ?_)
  refine hkw (n := (12, [])) (L := [(5, .nilIface)]) (C := fun w' => w' = w) ?_ rfl ?_
  · have h0 : Kn (12, []) [] { tmps := #[pb b2, pb b3] ++ Array.replicate 10 undef, defers := [] } := ⟨by simp, rfl, fun j v h => nomatch h⟩
    exact h0.put (d := some 5) rfl .nilIface
  · refine go ?_
    refine hA rfl rfl rfl (v := .bool true) (C' := fun w' => w' = w) (fun ρ w1 hρ hw => ?_) rfl ?_
    · have h1 : ρ (.tmp 5) = .nilIface := hρ _ _ rfl
      have h2 : ρ (.const .nilIface) = .nilIface := hρ _ _ rfl
      simp only [execOp, h1, h2]
      exact ⟨(), rfl, trivial, hw⟩
    · refine go ?_
      intro a w1 ha hc
      exact ⟨ha.defs, .returning, by rw [← hu], .tuple #[], (RL.step (P := TP) (C := fun w' => w' = w) (w := w1) (vs := []) (rs := Tryz.f33.results.toList) .nil ha hc).sound (fn := Tryz.f33) rfl rfl, rfl, ⟨_, rfl⟩, hc⟩
/-- The end of a function that recovers. -/
theorem rcD {k : Nat} {fn : Func} {L : Env} {C : World → Prop} {X : Type} {v : X → Value} {p : X → Prop} {C' : X → World → Prop} {vs : List Value} {b2 b3 : Nat} (x : X) (hp : p x) (hC : ∀ w, C w → C' x w)
    (h : RL TP C L fn.results.toList vs) (hv : pack vs = v x := by rfl) (hl : Nat.ble vs.length 3 = true := by rfl) : HK TP (k, [{ target := .fn (.func 33) #[pb b2, pb b3], args := #[] }]) [] L C (bodyPostM Fence.wide 0 TP fn fun e w' => ∃ x, e = .returned (v x) ∧ p x ∧ C' x w') := by
  intro a w ha hc
  show LeavesInM Fence.wide 0 TP fn a.tmps _ a.defers .returning w
  rw [ha.defs]
  refine ⟨by simp, .inr ⟨fun h => (by simp [Fence.wide] at h), .func 33, #[pb b2, pb b3], 33, #[pb b2, pb b3], rfl, ?_, fun _ _ => trivial, (d33 (b2 := b2) (b3 := b3)).mono ?_⟩⟩
  · simp [invoke]
  · rintro e u' w' ⟨rfl, ⟨r, rfl⟩, rfl⟩
    exact ⟨v x, hv ▸ (h.step ha hc).sound (by simp) hl, x, rfl, hp, hC _ hc⟩
theorem rcDr {k : Nat} {fn : Func} {L : Env} {C : World → Prop} {X : Type} {v : X → Value} {p : X → Prop} {C' : X → World → Prop} {vs : List Value} {b2 b3 : Nat} {s : List KI} (x : X) (hp : p x) (hC : ∀ w, C w → C' x w)
    (h : RL TP C L fn.results.toList vs) (hv : pack vs = v x := by rfl) (hl : Nat.ble vs.length 3 = true := by rfl) : HK TP (k, [{ target := .fn (.func 33) #[pb b2, pb b3], args := #[] }]) (.code .ret :: s) L C (bodyPostM Fence.wide 0 TP fn fun e w' => ∃ x, e = .returned (v x) ∧ p x ∧ C' x w') := by
  intro a w ha hc
  refine wp_ret ?_
  have key : ∀ s : List KI, Kw TP s (bodyPostM Fence.wide 0 TP fn fun e w' => ∃ x, e = .returned (v x) ∧ p x ∧ C' x w') .ret a w := by
    intro s
    induction s with
    | nil => exact rcD x hp hC h hv hl a w ha hc
    | cons k s ih => cases k <;> exact ih
  exact key s
theorem colS_succ (l : List Col) (g : Cfg) (R : List (List Vl)) (i : Nat) : colS l g R (i + 1) = colS l g R i ++ colT l g R i := rfl
theorem colS_pre (l : List Col) (g : Cfg) (R : List (List Vl)) {k n : Nat} (h : k ≤ n) : ∃ r, colS l g R n = colS l g R k ++ r := by
  induction n with
  | zero => obtain rfl : k = 0 := by omega
            exact ⟨[], (List.append_nil _).symm⟩
  | succ n ih =>
    rcases Nat.lt_or_eq_of_le h with h1 | h1
    · obtain ⟨r, hr⟩ := ih (by omega)
      exact ⟨r ++ colT l g R n, by rw [colS_succ, hr, List.append_assoc]⟩
    · subst h1; exact ⟨[], (List.append_nil _).symm⟩
theorem secs_8 {l : List Col} {g : Cfg} {R : List (List Vl)} : 8 ≤ (secsB (imgS l g R)).length := by
  have h : (secB (nmSch, schB l g)).length ≤ ((imgS l g R).flatMap secB).length := by
    unfold imgS
    simp only [List.cons_append, List.flatMap_cons, List.length_append]
    omega
  have h2 : 7 ≤ (secB (nmSch, schB l g)).length := by
    unfold secB
    have : (sb nmSch).length = 6 := by rw [sb_len]; rfl
    simp only [List.length_append, List.length_cons, this]
    omega
  unfold secsB
  simp only [List.length_append, le_len, List.length_cons, List.length_nil]
  omega
section
variable {J : List (World → Prop)} {H : List RC} {ob sb : Nat} {bq q : Q2} {bs : List Int} {A S : List Sec} {l : List Col} {g : Cfg} {R : List (List Vl)} {C : List Clm} {x : SgA}
/-- A column. -/
theorem cCol (hB : BOk l g R) (hsr : SrtR g R) (hi : C.length < l.length) (hAp : A.map Sec.pl = colT l g R C.length) (hb : (A ++ S).length ≤ 200) (hT : Ent J TabT) (hJ : Ent J (Rs fSec 2 q.1 q.2 (A ++ S))) (hJ2 : Ent J (AllE sF8 A)) (hJ3 : Ent J (Rs fC 2 x.lq.1 x.lq.2 l)) (hJ4 : Ent J (Bn (gF' g x.a))) (hJ5 : Ent J (AllC l R C)) :
    Tr TP 37 [pb ob, .int .i64 C.length] (Ctx J (opH ob sb bq bs l g R.length C x q (A ++ S) H)) (fun _ : Q2 × Q2 × Clm => .tuple #[]) (fun y => ClmOk l g R C.length y.2.2)
      (fun y => Ctx (AllC l R (C ++ [y.2.2]) :: Rs fSec 2 y.1.1 y.1.2 S :: J) (opH ob sb bq bs l g R.length (C ++ [y.2.2]) { x with cq := y.2.1 } y.1 S H)) := by
  unfold colT at hAp
  cases hd : dimB l (C.length : Nat) with
  | true =>
    rw [hd, if_pos rfl] at hAp
    exact cColD hB hsr hi hd hAp hb hT hJ hJ2 hJ3 hJ4 hJ5
  | false =>
    rw [hd, if_neg (by simp)] at hAp
    obtain ⟨s, A', rfl⟩ : ∃ s A', A = s :: A' := by
      cases A with
      | nil => simp at hAp
      | cons a A => exact ⟨_, _, rfl⟩
    simp only [List.map_cons, List.cons.injEq, List.map_eq_nil_iff] at hAp
    obtain ⟨e, rfl⟩ := hAp
    have hb' : S.length ≤ 200 := by simp at hb; omega
    exact cColM hB hi hd ⟨congrArg Prod.fst e, congrArg Prod.snd e⟩ hb' hJ (fun w j => hJ2 w j s (by simp)) hJ3 hJ5
/-- The star-tree, if there is one. -/
theorem cTree (hB : BOk l g R) (hCl : C.length = l.length) (hC : ∀ i (h : i < C.length), ClmOk l g R i C[i]) (hSp : S.map Sec.pl = starS l g R) (hst : x.st = .pointer none) (hJ : Ent J (Rs fSec 2 q.1 q.2 S)) (hJ4 : Ent J (Bn (gF' g x.a))) (hJ5 : Ent J (AllC l R C)) :
    Tr TP 38 [pb ob] (Ctx J (opH ob sb bq bs l g R.length C x q S H)) (fun _ : Q2 × Nat × TS => .tuple #[]) (fun y => 0 < g.split.length → y.2.2.pu = starT l g R)
      (fun y => Ctx ((fun w => 0 < g.split.length → Bn (tR y.2.1 g.split.length (metT l R l.length).length g.leaf.toNat y.2.2) w) :: J) (opH ob sb bq bs l g R.length C { x with st := pO (decide (0 < g.split.length)) y.2.1 } y.1 [] H)) := by
  unfold starS at hSp
  by_cases h0 : 0 < g.split.length
  · rw [if_pos h0] at hSp
    obtain ⟨s, rfl, e⟩ : ∃ s, S = [s] ∧ s.pl = (nmStar, treeB g.split.length (metT l R l.length).length (starT l g R)) := by
      cases S with
      | nil => simp at hSp
      | cons a S =>
        simp only [List.map_cons, List.cons.injEq, List.map_eq_nil_iff] at hSp
        exact ⟨a, by rw [hSp.2], hSp.1⟩
    have k := cTreeS (H := H) (bs := bs) (S := []) (ob := ob) (sb := sb) (bq := bq) hB h0 hCl hC (congrArg Prod.fst e) hst (by simp) hJ hJ4 hJ5
    refine ⟨fun w h => (k.go w h).mono fun e w' ⟨y, e1, hp, h'⟩ => ⟨y, e1, fun _ => hp, ?_⟩, k.en⟩
    rw [decide_eq_true h0]
    exact h'.ent fun w j => ⟨fun _ => j.1, j.2.2⟩
  · rw [if_neg h0, List.map_eq_nil_iff] at hSp
    subst hSp
    have k := cTree0 (H := H) (J := J) (bs := bs) (S := []) (ob := ob) (sb := sb) (bq := bq) (l := l) (R := R) (C := C) (x := x) (q := q) (g := g) (by omega)
    refine ⟨fun w h => (k.go w h).mono fun e w' ⟨y, e1, hp, h'⟩ => ⟨(q, 0, ⟨[], (none, 0), [], (none, 0)⟩), e1, fun h => absurd h h0, ?_⟩, k.en⟩
    rw [decide_eq_false h0]
    have e2 : ({ x with st := pO false 0 } : SgA) = x := by cases x; simp only at hst; subst hst; rfl
    rw [show (q, 0, (⟨[], (none, 0), [], (none, 0)⟩ : TS)).2.1 = 0 from rfl, e2]
    exact h'.ent fun w j => ⟨fun h => absurd h h0, j⟩
end
end
end Go.Proofs.YtimemehaccgmmaaGreatDoor
