/-
  Parts of the walks and their plain laws (K9 K11). No condition.
-/
import Derived.Test.YtimemehaccgmmaaGreatDoorM30
import Derived.Test.YtimemehaccgmmaaGreatDoorM14
namespace Go.Proofs.YtimemehaccgmmaaGreatDoor
open Go.RowKit
set_option maxRecDepth 100000
set_option linter.unusedVariables false
set_option linter.unusedSimpArgs false
noncomputable section
def fKid (x : Int × Nat) : List Value := [.int .i64 x.1, .int .i64 x.2]
instance : Lies fKid 2 := ⟨fun _ => rfl, fun x v h => by simp [fKid] at h; rcases h with rfl | rfl <;> rfl, by decide⟩
/-- A node of the tree in memory. -/
structure Nd where
  d : Nat
  f : Nat
  t : Nat
  q : Q2
  ks : List (Int × Nat)
def fNd (x : Nd) : List Value := [.int .i64 x.d, .int .i64 x.f, .int .i64 x.t, .slice x.q.1 x.ks.length x.q.2]
instance : Lies fNd 4 := ⟨fun _ => rfl, fun x v h => by simp [fNd] at h; rcases h with rfl | rfl | rfl | rfl <;> rfl, by decide⟩
def Nd.pn (x : Nd) : PN := ⟨x.d, x.f, x.t, x.ks⟩
def kidJ (x : Nd) : World → Prop := Rs fKid 2 x.q.1 x.q.2 x.ks
/-- A tree that grows. -/
structure TS where
  R : List Rec
  qR : Q2
  N : List Nd
  qN : Q2
def TS.pu (x : TS) : St := ⟨x.R.map Rec.pl, x.N.map Nd.pn⟩
abbrev tC (k m leaf : Nat) (x : TS) : List Value := [.int .i64 k, .int .i64 m, .int .i64 leaf, .slice x.qR.1 x.R.length x.qR.2, .slice x.qN.1 x.N.length x.qN.2]
abbrev tH (tb k m leaf : Nat) (x : TS) (H : List RC) : List RC := pt tb 134 (tC k m leaf x) :: sl fRec 10 139 x.qR.1 x.qR.2 x.R :: sl fNd 4 183 x.qN.1 x.qN.2 x.N :: H
abbrev tF (x : TS) : World → Prop := fun w => AllE figJ x.R w ∧ AllE kidJ x.N w
def Rec.sa (x : Rec) (d : Nat) (v : Int) : Rec := ⟨fun j => if j = d then v else x.a j, x.n, x.q, x.f⟩
theorem ld_rec {x : Rec} {d : Nat} (h : d < 8) : ldC TP 3 (fRec x) d = some (.int .i64 (x.a d)) := by
  rcases d with _ | _ | _ | _ | _ | _ | _ | _ | d <;> first | rfl | omega
theorem st_rec {x : Rec} {d : Nat} {v : Int} (h : d < 8) : stC TP 3 (fRec x) d (.int .i64 v) = some (fRec (x.sa d v)) := by
  rcases d with _ | _ | _ | _ | _ | _ | _ | _ | d <;> first | rfl | omega
theorem ids_at {x : Rec} {d : Nat} (h : d < 8) : x.ids.getD d 0 = x.a d := by
  rcases d with _ | _ | _ | _ | _ | _ | _ | _ | d <;> first | rfl | omega
theorem sa_pl {x : Rec} {d : Nat} (h : d < 8) : (x.sa d (-1)).pl = starAt d x.pl := by
  rcases d with _ | _ | _ | _ | _ | _ | _ | _ | d <;> first | rfl | omega
section
variable {J : List (World → Prop)} {H : List RC} {tb k m leaf : Nat} {T : TS}
abbrev GrT (tb k m leaf f : Nat) : Prop := ∀ {J H} {T : TS} {d p q : Nat} {st : Bool}, d + f = k → Ent J (AllE figJ T.R) → Ent J (AllE kidJ T.N) → p ≤ q ∧ q ≤ p + 100 → q ≤ T.R.length → (∀ x ∈ T.R, x.f.length = m) →
  (growP leaf k f st p q T.pu).R.length ≤ 1000 → (growP leaf k f st p q T.pu).N.length ≤ 1000000 →
  Tr TP 83 [pb tb, .int .i64 (d : Nat), .int .i64 p, .int .i64 q, .bool st] (Ctx J (tH tb k m leaf T H)) (fun _ : TS => .int .i64 T.N.length) (fun S => S.pu = growP leaf k f st p q T.pu ∧ ∀ x ∈ S.R, x.f.length = m)
    (fun S => Ctx (AllE figJ S.R :: AllE kidJ S.N :: J) (tH tb k m leaf S H))
theorem tgS_f {n : Nat} {a : List Pl} {r : Pl} (ha : ∀ x ∈ a, x.2.2.length = n) (hr : r.2.2.length = n) : ∀ x ∈ tgS a r, x.2.2.length = n := by
  unfold tgS
  split
  · next s hs =>
    have hs0 : s.2.2.length = n := ha s (List.mem_of_getLast? hs)
    split
    · intro x hx
      rcases List.mem_append.1 hx with hx | hx
      · exact ha x (List.dropLast_subset _ hx)
      · rw [List.mem_singleton.1 hx]
        simp [addR, hs0, hr]
    · intro x hx
      rcases List.mem_append.1 hx with hx | hx
      · exact ha x hx
      · rw [List.mem_singleton.1 hx]; exact hr
  · intro x hx
    rw [List.mem_singleton.1 hx]; exact hr
theorem tgF_f {n : Nat} : ∀ (L a : List Pl), (∀ x ∈ a, x.2.2.length = n) → (∀ x ∈ L, x.2.2.length = n) → ∀ x ∈ L.foldl tgS a, x.2.2.length = n
  | [], a, ha, _ => ha
  | r :: L, a, ha, h => tgF_f L (tgS a r) (tgS_f ha (h r (List.mem_cons_self ..))) fun x hx => h x (List.mem_cons_of_mem _ hx)
theorem togs_f {n : Nat} {L : List Pl} (h : ∀ x ∈ L, x.2.2.length = n) : ∀ x ∈ togs L, x.2.2.length = n :=
  tgF_f (srtP L) [] (fun _ h => nomatch h) fun x hx => h x (((srtP_ok L).perm ltP_swo).mem_iff.1 hx)
theorem kidJ_nil {d p q : Nat} (w : World) : kidJ ⟨d, p, q, (none, 0), []⟩ w := Rs.nil0 fKid 2 none w
set_option maxHeartbeats 4000000 in
theorem cGrow0 (hk : k ≤ 8) (hm : m ≤ 100) (hl : leaf ≤ 1000000) : GrT tb k m leaf 0 := by
  intro J H T d p q st hd hF hK ⟨hpq, hpq2⟩ hq hf hb1 hb2
  unfold growP at hb1 hb2
  obtain rfl : d = k := by omega
  have hb3 : T.N.length ≤ 1000000 := by simp [TS.pu] at hb2; omega
  have hb4 : T.R.length ≤ 1000 := by simp [TS.pu] at hb1; omega
  refine en0 Tryz.func83 rfl rfl rfl (addJ hF (addJ (fun w j => hK w j.2) (go ?_)))
  intro b
  refine hx rfl rfl rfl (oAp1 (k := 2) (f := fNd) (y := ⟨d, p, q, (none, 0), []⟩) rfl rfl rfl ln rfl rfl rfl rfl om (fun _ => rfl)) ?_
  intro qN
  refine go ?_
  exact rt ⟨T.R, T.qR, T.N ++ [⟨d, p, q, (none, 0), []⟩], qN⟩ ⟨by simp [growP, TS.pu, Nd.pn], hf⟩ rfl (fun _ h => by exact h.ent fun w j => ⟨j.2.1, AllE.snoc (F := kidJ) j.1 (kidJ_nil w), j.2.2⟩)
theorem idAt_of {R : List Rec} {e d : Nat} (he : e < R.length) (hd : d < 8) : idAt (R.map Rec.pl) e d = (R[e]'he).a d := by
  have e1 : (R.map Rec.pl).getD e default = (R[e]'he).pl := by
    rw [List.getD_eq_getElem?_getD, List.getElem?_eq_getElem (by rw [List.length_map]; exact he), Option.getD_some, List.getElem_map]
  unfold idAt
  rw [e1]
  exact ids_at hd
theorem runEnd_go {R : List Pl} {d q e : Nat} {id : Int} (h : e < q) (hi : idAt R e d = id) : runEnd R d id (q - e) e = runEnd R d id (q - (e + 1)) (e + 1) := by
  rw [show q - e = (q - (e + 1)) + 1 by omega]
  conv => lhs; unfold runEnd
  rw [if_pos hi]
theorem runEnd_no {R : List Pl} {d q e : Nat} {id : Int} (h : e < q → idAt R e d ≠ id) : runEnd R d id (q - e) e = e := by
  by_cases h1 : e < q
  · rw [show q - e = (q - (e + 1)) + 1 by omega]
    unfold runEnd
    rw [if_neg (h h1)]
  · rw [show q - e = 0 by omega]; rfl
theorem St.Le.N {a b : St} (h : St.Le a b) : a.N.length ≤ b.N.length := h.2
theorem St.Le.R {a b : St} (h : St.Le a b) : a.R.length ≤ b.R.length := by obtain ⟨⟨E, e⟩, -⟩ := h; rw [e]; simp
theorem pu_R {T : TS} : T.pu.R.length = T.R.length := by simp [TS.pu]
theorem pu_N {T : TS} : T.pu.N.length = T.N.length := by simp [TS.pu]
theorem AllE.set {β : Type} {F : β → World → Prop} {A : List β} {w : World} {a : β} {i : Nat} (h : AllE F A w) (k : F a w) : AllE F (A.set i a) w := fun y hy => by
  rcases List.mem_or_eq_of_mem_set hy with h1 | h1
  · exact h y h1
  · subst h1; exact k
theorem setKids_of {N : List Nd} {n : Nat} {qk : Q2} {ks : List (Int × Nat)} (hn : n < N.length) : (N.set n ⟨N[n].d, N[n].f, N[n].t, qk, ks⟩).map Nd.pn = setKids (N.map Nd.pn) n ks := by
  unfold setKids
  rw [List.map_set, List.getD_eq_getElem?_getD, List.getElem?_eq_getElem (by rw [List.length_map]; exact hn), Option.getD_some, List.getElem_map]
  rfl
set_option maxHeartbeats 8000000 in
theorem cGrowS {f : Nat} (hk : k ≤ 8) (hm : m ≤ 100) (hl : leaf ≤ 1000000) (ih : GrT tb k m leaf f) : GrT tb k m leaf (f + 1) := by
  intro J H T d p q st hd hF hK ⟨hpq, hpq2⟩ hq hf hb1 hb2
  have hd8 : d < 8 := by omega
  have hdk : k - (f + 1) = d := by omega
  have hle := grow_le leaf k (f + 1) st p q T.pu
  have hb3 : T.N.length ≤ 1000000 := by have := hle.1.N; rw [pu_N] at this; omega
  have hb4 : T.R.length ≤ 1000 := by have := hle.1.R; rw [pu_R] at this; omega
  refine en0 Tryz.func83 rfl rfl rfl (addJ hF (addJ (fun w j => hK w j.2) (go ?_)))
  intro b
  refine hx rfl rfl rfl (oAp1 (k := 2) (f := fNd) (y := ⟨d, p, q, (none, 0), []⟩) rfl rfl rfl ln rfl rfl rfl rfl om (fun _ => rfl)) ?_
  intro qN
  obtain ⟨S1, hS1⟩ : ∃ S1 : TS, S1 = ⟨T.R, T.qR, T.N ++ [⟨d, p, q, (none, 0), []⟩], qN⟩ := ⟨_, rfl⟩
  have hS1N : S1.N.length = T.N.length + 1 := by rw [hS1]; simp
  have hS1p : S1.pu = ⟨T.pu.R, T.pu.N ++ [⟨d, p, q, []⟩]⟩ := by rw [hS1]; simp [TS.pu, Nd.pn]
  refine go ?_
  refine ⟨fun h2 => ?_, fun h2 => ?_⟩
  · refine go ?_
    have hg : growP leaf k (f + 1) st p q T.pu = S1.pu := by
      unfold growP
      rw [if_pos (by omega), hS1p, hdk]
    exact rt S1 ⟨hg.symm, by rw [hS1]; exact hf⟩ rfl (fun _ h => by rw [hS1]; exact h.ent fun w j => ⟨j.2.1, AllE.snoc (F := kidJ) j.1 (kidJ_nil w), j.2.2⟩)
  · obtain ⟨KF, hKF⟩ : ∃ KF, KF = kidsP (fun a e S => growP leaf k f st a e S) T.pu.R d q (q - p) p S1.pu [] := ⟨_, rfl⟩
    have hgS : growP leaf k (f + 1) st p q T.pu = if st then ⟨KF.1.R, setKids KF.1.N T.pu.N.length KF.2⟩ else
        ⟨(growP leaf k f true KF.1.R.length (KF.1.R.length + (starRecs KF.1.R d p q).length) ⟨KF.1.R ++ starRecs KF.1.R d p q, KF.1.N⟩).R, setKids (growP leaf k f true KF.1.R.length (KF.1.R.length + (starRecs KF.1.R d p q).length) ⟨KF.1.R ++ starRecs KF.1.R d p q, KF.1.N⟩).N T.pu.N.length (KF.2 ++ [(-1, KF.1.N.length)])⟩ := by
      conv => lhs; unfold growP
      rw [if_neg (by omega), hdk, ← hS1p, ← hKF]
    have hKb : KF.1.R.length ≤ 1000 ∧ KF.1.N.length ≤ 1000000 := by
      rw [hgS] at hb1 hb2
      cases st with
      | true =>
        simp only [if_true, setKids_len] at hb1 hb2
        exact ⟨hb1, hb2⟩
      | false =>
        simp only [Bool.false_eq_true, if_false, setKids_len] at hb1 hb2
        have h1 := (grow_le leaf k f true KF.1.R.length (KF.1.R.length + (starRecs KF.1.R d p q).length) ⟨KF.1.R ++ starRecs KF.1.R d p q, KF.1.N⟩).1
        have h2 := h1.R
        have h3 := h1.N
        simp only [List.length_append] at h2 h3
        exact ⟨by omega, by omega⟩
    have hgl : ∀ a e S, St.Le S (growP leaf k f st a e S) := fun a e S => (grow_le leaf k f st a e S).1
    refine go ?_
    refine lp (X := Nat × TS × Q2 × List (Int × Nat)) (fun x => p ≤ x.1 ∧ x.1 ≤ q ∧ kidsP (fun a e S => growP leaf k f st a e S) T.pu.R d q (q - x.1) x.1 x.2.1.pu x.2.2.2 = KF ∧ (∃ E, x.2.1.pu.R = T.pu.R ++ E) ∧ T.N.length < x.2.1.N.length ∧ (∀ y ∈ x.2.1.R, y.f.length = m) ∧ x.2.2.2.length ≤ x.1)
      (fun (a, S, qk, ks) => [(0, pb tb), (1, .int .i64 d), (2, .int .i64 p), (3, .int .i64 q), (4, .bool st), (11, .int .i64 T.N.length), (12, .slice qk.1 ks.length qk.2), (13, .int .i64 a)])
      (fun (a, S, qk, ks) => Ctx (AllE figJ S.R :: AllE kidJ S.N :: J) (tH tb k m leaf S (sl fKid 2 185 qk.1 qk.2 ks :: H))) (fun x => q - x.1) (p, S1, (none, 0), []) ⟨Nat.le_refl _, hpq, hKF.symm, ⟨[], by rw [hS1p]; simp⟩, by dsimp only; omega, by rw [hS1]; exact hf, by simp⟩ rfl
      (fun w h => by
        rw [hS1]
        have h2 : Ctx (AllE figJ T.R :: AllE kidJ (T.N ++ [⟨d, p, q, (none, 0), []⟩]) :: J) (tH tb k m leaf ⟨T.R, T.qR, T.N ++ [⟨d, p, q, (none, 0), []⟩], qN⟩ H) w := h.ent fun w j => ⟨j.2.1, AllE.snoc (F := kidJ) j.1 (kidJ_nil w), j.2.2⟩
        have h3 := Ctx.nl (f := fKid) (sz := 2) (e := 185) h2
        exact h3.perm (((List.Perm.swap _ _ _).trans ((List.Perm.swap _ _ _).cons _)).trans (((List.Perm.swap _ _ _).cons _).cons _))) fun ⟨a, S, qk, ks⟩ ⟨ha1, ha2, hkp, hE, hN, hfS, hks⟩ => ?_
    dsimp only at ha1 ha2 hkp hE hN hfS hks
    have hSl : St.Le S.pu KF.1 := by rw [← hkp]; exact kids_le hgl _ _ _ _ _ _ _
    have hSb : S.R.length ≤ 1000 ∧ S.N.length ≤ 1000000 := by have h1 := hSl.R; have h2 := hSl.N; rw [pu_R] at h1; rw [pu_N] at h2; omega
    have hRl : T.R.length ≤ S.R.length := by obtain ⟨E, hE⟩ := hE; have := congrArg List.length hE; rw [List.length_append, pu_R, pu_R] at this; omega
    have hid : ∀ e (he : e < q), idAt T.pu.R e d = (S.R[e]'(by omega)).a d := fun e he => by
      obtain ⟨E, hE⟩ := hE
      rw [← idAt_append (E := E) (by rw [pu_R]; omega), ← hE]
      exact idAt_of (by omega) hd8
    refine go ?_
    refine ⟨fun h3 => ?_, fun h3 => ?_⟩
    · have hao : a < q := by omega
      refine go ?_
      refine hA rfl rfl rfl ((qIxA (i := d) (off' := padd (ao S.qR.1 + a * 10) d) rfl rfl rfl rfl (by omega) (by simp [padd_eq])).os (fun _ _ => trivial)) rfl ?_
      refine hA rfl rfl rfl (oLfS (k := 1) (i := a) (g := d) rfl rfl rfl (by omega) (ld_rec hd8)) rfl ?_
      obtain ⟨id, hida⟩ : ∃ id, id = (S.R[a]'(by omega)).a d := ⟨_, rfl⟩
      rw [← hida]
      have hida' : idAt T.pu.R a d = id := by rw [hid a hao, hida]
      refine go ?_
      refine lp (X := Nat) (fun e => a ≤ e ∧ e ≤ q ∧ runEnd T.pu.R d id (q - e) e = runEnd T.pu.R d id (q - a) a)
        (fun e => [(0, pb tb), (1, .int .i64 d), (2, .int .i64 p), (3, .int .i64 q), (4, .bool st), (11, .int .i64 T.N.length), (12, .slice qk.1 ks.length qk.2), (13, .int .i64 a), (14, .int .i64 id), (15, .int .i64 e)])
        (fun _ => Ctx (AllE figJ S.R :: AllE kidJ S.N :: J) (tH tb k m leaf S (sl fKid 2 185 qk.1 qk.2 ks :: H))) (fun e => q - e) a ⟨Nat.le_refl _, ha2, rfl⟩ rfl (fun _ h => h) fun e ⟨he1, he2, he3⟩ => ?_
      refine go ?_
      refine ⟨fun h4 => ?A1, fun h4 => ?B1⟩
      case' A1 =>
        have heq : e < q := by omega
        refine go ?_
        refine ⟨fun _ => ?_, fun h => nomatch h⟩
        refine hA rfl rfl rfl ((qIxA (i := d) (off' := padd (ao S.qR.1 + e * 10) d) rfl rfl rfl rfl (by omega) (by simp [padd_eq])).os (fun _ _ => trivial)) rfl ?_
        refine hA rfl rfl rfl (oLfS (k := 1) (i := e) (g := d) rfl rfl rfl (by omega) (ld_rec hd8)) rfl ?_
        refine go ?_
        refine ⟨fun h5 => ?A2, fun h5 => ?B2⟩
        case A2 =>
          refine go ?_
          exact en (e + 1) ⟨⟨by omega, by omega, by rw [← he3]; exact (runEnd_go heq (by rw [hid e heq]; exact h5)).symm⟩, by omega⟩ rfl (fun _ h => h)
        have hE2 : runEnd T.pu.R d id (q - a) a = e := by rw [← he3]; exact runEnd_no fun h => by rw [hid e h]; exact h5
      case' B1 =>
        have hE2 : runEnd T.pu.R d id (q - a) a = e := by rw [← he3]; exact runEnd_no fun h => absurd h (by omega)
      all_goals
        refine go ?_
        rw [← hida'] at hE2
        have hea : a < e := by rw [← hE2]; exact runEnd_gt _ _ _ _ (by omega)
        have hst := kids_step (g := fun a e S => growP leaf k f st a e S) (R := T.pu.R) (d := d) (q := q) (a := a) (S := S.pu) (ks := ks) hao
        rw [hE2, hkp, hida'] at hst
        have hG : St.Le (growP leaf k f st a e S.pu) KF.1 := by rw [hst]; exact kids_le hgl _ _ _ _ _ _ _
        have hG1 := hG.R
        have hG2 := hG.N
        have hSN : S.pu.N.length = S.N.length := pu_N
        rw [hSN] at hst
        have hgg := hgl a e S.pu
        rw [show ((d : Int) + 1) = ((d + 1 : Nat) : Int) by omega]
        refine ca (ih (d := d + 1) (T := S) (p := a) (q := e) (st := st) (by omega) jA jA ⟨by omega, by omega⟩ (by omega) hfS (by omega) (by omega)) fun S2 ⟨hS2, hf2⟩ => ?_
        refine go ?_
        intro c
        refine hx rfl rfl rfl (oAp1 (k := 3) (f := fKid) (y := (id, S.N.length)) rfl rfl rfl ln rfl rfl rfl rfl om (fun _ => rfl)) ?_
        intro qk2
        refine go ?_
        rw [← hS2] at hgg hst
        refine en (e, S2, qk2, ks ++ [(id, S.N.length)]) ⟨⟨by dsimp only; omega, he2, hst.symm, ?_, ?_, hf2, by simp; omega⟩, by dsimp only; omega⟩ rfl (fun w h => h.ent fun w j => ⟨j.1, j.2.1, j.2.2.2.2⟩)
        · obtain ⟨E, hE⟩ := hE
          obtain ⟨⟨E', hE'⟩, -⟩ := hgg
          exact ⟨E ++ E', by dsimp only; rw [hE', hE, List.append_assoc]⟩
        · have := hgg.N
          rw [pu_N, pu_N] at this
          dsimp only; omega
    · obtain rfl : a = q := by omega
      rw [kids_end] at hkp
      subst hkp
      dsimp only at hgS hKb
      refine go ?_
      have hnN : T.N.length < S.N.length := hN
      cases st with
      | true =>
        refine ⟨fun h => absurd h (by simp), fun _ => ?_⟩
        refine go ?_
        refine hA0 rfl rfl (oSf (f := fNd) (k := 2) (i := T.N.length) (y := ⟨S.N[T.N.length].d, S.N[T.N.length].f, S.N[T.N.length].t, qk, ks⟩) rfl rfl rfl rfl hnN rfl rfl rfl rfl) rfl ?_
        refine go ?_
        refine fr 3 rfl (fz ?_)
        refine rt ⟨S.R, S.qR, S.N.set T.N.length ⟨S.N[T.N.length].d, S.N[T.N.length].f, S.N[T.N.length].t, qk, ks⟩, S.qN⟩ ⟨?_, hfS⟩ rfl (fun w h => ?_)
        · have hh := setKids_of (N := S.N) (n := T.N.length) (qk := qk) (ks := ks) hnN
          rw [hgS, if_pos rfl, pu_N]
          simp only [TS.pu, hh]
        · simp only [tH, tC, List.length_set]
          exact h.ent fun w j => ⟨j.2.1, AllE.set (F := kidJ) j.2.2.1 j.1, j.2.2.2⟩
      | false =>
        refine ⟨fun _ => ?_, fun h => absurd h (by simp)⟩
        refine go ?_
        have hYl : (sub S.R p a).length = a - p := sub_length S.R (by omega)
        refine hA rfl rfl rfl ((qScS (f := fRec) (xs := S.R) (e := 139) (a := p) (b := a) rfl rfl rfl rfl rfl ⟨ha1, by omega⟩).os (fun _ h => h.at (k := 1) rfl)) rfl ?_
        rw [← hYl]
        refine go ?_
        refine frc 1 rfl ?_
        refine ca (brwN (r := sl fRec 10 139 S.qR.1 S.qR.2 S.R) (R := Rs fRec 10 (sbA S.qR.1 S.qR.2 p 10) (S.qR.2 - p) (sub S.R p a)) (fun w h => Rs_sub inferInstance (OwnS.rd (show OwnS fRec 10 w 0 139 S.qR.1 S.qR.2 S.R from h) inferInstance) ha1 (by omega)) fun J' hR _ => cClR (hb := by omega) (hJ := hR)) fun q2 _ => ?_
        refine go ?_
        obtain ⟨Y, hY⟩ : ∃ Y, Y = sub S.R p a := ⟨_, rfl⟩
        rw [← hY] at hYl ⊢
        have hYf : ∀ x ∈ Y, x.f.length = m := fun x hx => hfS x (by rw [hY] at hx; exact List.mem_of_mem_take (List.mem_of_mem_drop hx))
        have hYj : ∀ w, AllE figJ S.R w → AllE figJ (Y.map (·.sa d (-1))) w := fun w h x hx => by
          obtain ⟨y, hy, rfl⟩ := List.mem_map.1 hx
          exact h y (by rw [hY] at hy; exact List.mem_of_mem_take (List.mem_of_mem_drop hy))
        refine lp (X := Nat) (fun i => i ≤ Y.length) (fun i => [(0, pb tb), (1, .int .i64 d), (11, .int .i64 T.N.length), (12, .slice qk.1 ks.length qk.2), (16, .slice q2.1 Y.length q2.2), (112, .int .i64 Y.length), (113, .int .i64 i)])
          (fun i => Ctx (AllE figJ S.R :: AllE kidJ S.N :: J) (sl fRec 10 139 S.qR.1 S.qR.2 S.R :: sl fRec 10 139 q2.1 q2.2 ((Y.take i).map (·.sa d (-1)) ++ Y.drop i) :: pt tb 134 (tC k m leaf S) :: sl fNd 4 183 S.qN.1 S.qN.2 S.N :: sl fKid 2 185 qk.1 qk.2 ks :: H)) (fun i => Y.length - i) 0 (by omega) rfl (fun _ h => by simpa using h) fun i hi => ?_
        obtain ⟨M, hM⟩ : ∃ M, M = (Y.take i).map (·.sa d (-1)) ++ Y.drop i := ⟨_, rfl⟩
        have hMl : M.length = Y.length := by rw [hM]; simp; omega
        refine go ?_
        rw [← hM]
        refine ⟨fun h3 => ?_, fun h3 => ?_⟩
        · have hi1 : i < Y.length := by omega
          have hMi : M[i]'(by omega) = Y[i] := by
            simp only [hM]
            rw [List.getElem_append_right (by simp; omega)]
            simp [Nat.min_eq_left hi]
          have hMs : M.set i (Y[i].sa d (-1)) = (Y.take (i + 1)).map (·.sa d (-1)) ++ Y.drop (i + 1) := by
            rw [hM, List.set_append_right _ _ (by simp; omega), ← List.take_append_getElem hi1, List.map_append]
            simp only [List.length_map, List.length_take, Nat.min_eq_left hi, Nat.sub_self, List.append_assoc]
            congr 1
            rw [List.drop_eq_getElem_cons hi1]
            rfl
          refine go ?_
          refine hA rfl rfl rfl ((qIxA (i := d) (off' := padd (ao q2.1 + i * 10) d) rfl rfl rfl rfl (by omega) (by simp [padd_eq])).os (fun _ _ => trivial)) rfl ?_
          refine hA0 rfl rfl (oSf (f := fRec) (k := 1) (i := i) (g := d) (y := Y[i].sa d (-1)) rfl rfl rfl rfl (by omega) (by rw [hMi]; exact st_rec hd8) rfl rfl rfl) rfl ?_
          refine go ?_
          exact en (i + 1) (by omega) rfl (fun _ h => by rw [hMs] at h; exact h)
        · obtain rfl : i = Y.length := by omega
          refine go ?_
          have hMe : M = Y.map (·.sa d (-1)) := by rw [hM, List.take_length, List.drop_length, List.append_nil]
          obtain ⟨Z, hZ⟩ : ∃ Z, Z = Y.map (·.sa d (-1)) := ⟨_, rfl⟩
          have hZl : Y.length = Z.length := by rw [hZ]; simp
          rw [hMe, ← hZ, hZl]
          have hZf : ∀ x ∈ Z, x.f.length = m := fun x hx => by
            rw [hZ] at hx
            obtain ⟨y, hy, rfl⟩ := List.mem_map.1 hx
            exact hYf y hy
          refine frc 1 rfl ?_
          refine ca (cTog (R := Z) (nf := m) hZf (by omega) (by omega) (hJ := fun w j => by rw [hZ]; exact hYj w j.1)) fun ⟨q3, l⟩ ⟨R', hR', hl⟩ => ?_
          dsimp only at hl
          have hl2 : l.map Rec.pl = togs (Z.map Rec.pl) := by rw [hl]; exact togs_of hR'
          have hsr : starRecs S.pu.R d p a = togs (Z.map Rec.pl) := by
            unfold starRecs
            have e1 : (S.pu.R.take a).drop p = Y.map Rec.pl := by rw [hY]; simp [sub, TS.pu, List.map_take, List.map_drop]
            rw [e1, hZ, List.map_map, List.map_map]
            congr 1
            exact List.map_congr_left fun x _ => (sa_pl hd8).symm
          have hll : l.length ≤ 100 := by
            have h1 := congrArg List.length hl2
            have h2 := togs_len (Z.map Rec.pl)
            rw [List.length_map] at h1 h2; omega
          have hlf : ∀ x ∈ l, x.f.length = m := fun x hx => by
            have : x.pl ∈ togs (Z.map Rec.pl) := by rw [← hl2]; exact List.mem_map.2 ⟨x, hx, rfl⟩
            exact togs_f (L := Z.map Rec.pl) (fun y hy => by obtain ⟨z, hz, rfl⟩ := List.mem_map.1 hy; exact hZf z hz) _ this
          refine fz (go ?_)
          dsimp only
          refine apJ jA (by omega) fun q4 => ?_
          refine go ?_
          refine frc 1 rfl ?_
          rw [show ((d : Int) + 1) = ((d + 1 : Nat) : Int) by omega, show ((S.R.length : Int) + (l.length : Int)) = ((S.R.length + l.length : Nat) : Int) by omega]
          have hpu : TS.pu ⟨S.R ++ l, q4, S.N, S.qN⟩ = ⟨S.pu.R ++ starRecs S.pu.R d p a, S.pu.N⟩ := by
            rw [hsr, ← hl2]; simp [TS.pu]
          have hsl : (starRecs S.pu.R d p a).length = l.length := by rw [hsr, ← hl2]; simp
          have hRR : S.pu.R.length = S.R.length := pu_R
          have hNN : S.pu.N.length = S.N.length := pu_N
          rw [if_neg (by simp), hsl, hRR, hNN, ← hpu] at hgS
          have hbG := hb1
          have hbN := hb2
          rw [hgS] at hbG hbN
          dsimp only at hbG hbN
          rw [setKids_len] at hbN
          refine ca (ih (d := d + 1) (T := ⟨S.R ++ l, q4, S.N, S.qN⟩) (p := S.R.length) (q := S.R.length + l.length) (st := true) (by omega) (by intro w j; exact fun x hx => (List.mem_append.1 hx).elim (j.2.2.1 x) (j.2.1 x)) (by intro w j; exact j.2.2.2.1) ⟨by omega, by omega⟩ (by simp) (fun x hx => (List.mem_append.1 hx).elim (hfS x) (hlf x)) hbG hbN) fun S2 ⟨hS2, hf2⟩ => ?_
          refine go ?_
          intro c
          refine hx rfl rfl rfl (oAp1 (k := 3) (f := fKid) (y := ((-1 : Int), S.N.length)) rfl rfl rfl ln rfl rfl rfl rfl om (fun _ => rfl)) ?_
          intro qk2
          have hn2 : T.N.length < S2.N.length := by
            have h1 := (grow_le leaf k f true S.R.length (S.R.length + l.length) (TS.pu ⟨S.R ++ l, q4, S.N, S.qN⟩)).1.N
            rw [← hS2, pu_N, pu_N] at h1
            dsimp only at h1
            omega
          refine go ?_
          refine hA0 rfl rfl (oSf (f := fNd) (k := 2) (i := T.N.length) (y := ⟨S2.N[T.N.length].d, S2.N[T.N.length].f, S2.N[T.N.length].t, qk2, ks ++ [(-1, S.N.length)]⟩) rfl rfl rfl rfl hn2 rfl rfl rfl rfl) rfl ?_
          refine go ?_
          refine fr 3 rfl (fz ?_)
          refine rt ⟨S2.R, S2.qR, S2.N.set T.N.length ⟨S2.N[T.N.length].d, S2.N[T.N.length].f, S2.N[T.N.length].t, qk2, ks ++ [(-1, S.N.length)]⟩, S2.qN⟩ ⟨?_, hf2⟩ rfl (fun w h => ?_)
          · have hh := setKids_of (N := S2.N) (n := T.N.length) (qk := qk2) (ks := ks ++ [(-1, S.N.length)]) hn2
            rw [hgS, pu_N, ← hS2]
            simp only [TS.pu, hh]
          · simp only [tH, tC, List.length_set]
            exact h.ent fun w j => ⟨j.2.1, AllE.set (F := kidJ) j.2.2.1 j.1, j.2.2.2.2.2.2.2⟩
theorem cGrw (hk : k ≤ 8) (hm : m ≤ 100) (hl : leaf ≤ 1000000) : ∀ f, GrT tb k m leaf f
  | 0 => cGrow0 hk hm hl
  | f + 1 => cGrowS hk hm hl (cGrw hk hm hl f)
end
end
end Go.Proofs.YtimemehaccgmmaaGreatDoor
namespace Go.Proofs.YtimemehaccgmmaaGreatDoor
open Go.RowKit
set_option maxRecDepth 100000
set_option linter.unusedVariables false
set_option linter.unusedSimpArgs false
noncomputable section
abbrev uw (x : Int) : Int := IntKind.u64.wrap x
abbrev iw (x : Int) : Int := IntKind.i64.wrap x
def figB (s : Fig) : List Int := le 8 (uw s.s) ++ le 8 (uw s.l) ++ le 8 (uw s.h)
def idB (i : Int) : List Int := le 4 (uw (iw (i + 1)))
def recB (k : Nat) (r : Pl) : List Int := (r.1.take k).flatMap idB ++ le 8 (uw r.2.1) ++ r.2.2.flatMap figB
def kidB (x : Int × Nat) : List Int := idB x.1 ++ le 4 (uw x.2)
def nodB (x : PN) : List Int := le 1 (uw x.d) ++ le 4 (uw x.f) ++ le 4 (uw x.t) ++ le 4 (uw x.kids.length) ++ x.kids.flatMap kidB
/-- A tree's bytes. -/
def treeB (k m : Nat) (S : St) : List Int := le 1 (uw k) ++ le 2 (uw m) ++ le 4 (uw S.R.length) ++ S.R.flatMap (recB k) ++ le 4 (uw S.N.length) ++ S.N.flatMap nodB
/-- Bytes that are written. -/
abbrev bwH (c : Nat) (q : Q2) (xs : List Int) (H : List RC) : List RC := pt c 32 [.slice q.1 xs.length q.2] :: sl f8 1 5 q.1 q.2 xs :: H
section
variable {P : Program} {n : Fr} {ops : Array Oper} {o : Oper} {L : Env}
/-- A slice of an array's beginning. -/
theorem qSlH {t : TypeId} {x y : Operand} {b ofs len sz0 h : Nat} (ho : o.op = .slice t x none (some y) none) (hx : ev L x = some (.pointer (some ⟨b, ofs, none⟩))) (hy : ev L y = some (.int .i64 (h : Int))) (ht : esA P t = some (len, sz0)) (hl : 0 < len) (hh : h ≤ len) :
    OQ P o L none (.slice (some ⟨b, ofs, none⟩) h len) := by
  obtain ⟨e, inf, ht2, hi, rfl⟩ := esA_eq ht
  refine ⟨by rw [ho]; rfl, fun ρ w hρ _ => ?_⟩
  have e3 : (Instr.sliceBounds false len len none (some (.int .i64 (h : Int))) none).run P w = .ok (0, h, len) w := by
    unfold Instr.sliceBounds
    have h8 := run_sliceBound (P := P) w .i64 (h : Int) len BoundsCode.sliceAlen (by omega) (by omega)
    simp [h8]
  have hne : ¬ len = 0 := by omega
  simp only [execOp, ho, hρ _ _ hx, Instr.sliceAt, Sem.run_bind, run_und ht2, Result.andThen_ok, Option.map_none, Option.map_some, hρ _ _ hy, e3]
  simp [Instr.sureAddr, sizeOf, typeInfo, hi, e3, hne, add_eq]
end
section
variable {J : List (World → Prop)} {H : List RC} {c tb k m leaf : Nat} {q : Q2} {xs : List Int} {T : TS}
theorem cPutB {v : Int} {z : Nat} (hb : xs.length ≤ 10000000) (hz : z ≤ 8) :
    Tr TP 84 [.int .i64 v, .int .i64 z, pb c] (Ctx J (bwH c q xs H)) (fun _ : Q2 => .tuple #[]) (fun _ => True) (fun q => Ctx J (bwH c q (xs ++ le z (uw v)) H)) := by
  refine en0 Tryz.func84 rfl rfl rfl (go ?_)
  refine lp (X := Nat × Q2) (fun x => x.1 ≤ z) (fun (i, q) => [(2, pb c), (5, .int .u64 (uw v / 256 ^ i)), (8, .int .i64 z), (9, .int .i64 i)]) (fun (i, q) => Ctx J (bwH c q (xs ++ le i (uw v)) H)) (fun x => z - x.1) (0, q) (by dsimp only; omega) (by simp; rfl) (fun _ h => by simpa [le] using h) fun (i, q) hi => ?_
  dsimp only at hi
  refine go ?_
  refine ⟨fun h1 => ?_, fun h1 => ?_⟩
  · refine go ?_
    intro b q2
    refine go ?_
    refine en (i + 1, q2) (by dsimp only; omega) (by simp [le_succ, shr8]) (fun _ h => by dsimp only; rw [le_succ, ← List.append_assoc]; exact h)
  · obtain rfl : i = z := by omega
    refine go ?_
    exact rtE q trivial rfl (fun _ h => h)
theorem rs_take {α : Type} {f : α → List Value} {sz cap n : Nat} {ad : Option Addr} {xs : List α} {w : World} (h : Rs f sz ad cap xs w) : Rs f sz ad cap (xs.take n) w :=
  ⟨by have := h.1; rw [List.length_take]; omega, h.2.1, fun i hi => by
    have hi2 : i < xs.length := by rw [List.length_take] at hi; omega
    simp only [List.getElem_take]
    exact h.2.2 i hi2⟩
theorem fm_take {α β : Type} {l : List α} {g : α → List β} {i : Nat} (h : i < l.length) : (l.take (i + 1)).flatMap g = (l.take i).flatMap g ++ g l[i] := by
  rw [← List.take_append_getElem h, List.flatMap_append]; simp
theorem fm_le {α β : Type} {l : List α} {g : α → List β} (i : Nat) : ((l.take i).flatMap g).length ≤ (l.flatMap g).length := by
  conv => rhs; rw [← List.take_append_drop i l, List.flatMap_append]
  rw [List.length_append]; omega
/-- A tree that is read. -/
def tR (tb k m leaf : Nat) (T : TS) : List (World → Prop) := [(pt tb 134 (tC k m leaf T)).A, Rs fRec 10 T.qR.1 T.qR.2 T.R, Rs fNd 4 T.qN.1 T.qN.2 T.N, AllE figJ T.R, AllE kidJ T.N]
theorem cTNone (hk : 1 ≤ k) (hJ : Ent J (Bn (tR tb k m leaf T)) := by exact jA) : Tr TP 54 [pb tb] (Ctx J H) (fun _ : Unit => .bool false) (fun _ => True) (fun _ => Ctx J H) := by
  refine en0 Tryz.func54 rfl rfl rfl (addS5 hJ ?_)
  refine go ?_
  rw [show decide ((k : Int) = 0) = false by simp; omega]
  exact rt () trivial rfl (fun _ h => h.ent fun _ j => j.2.2.2.2.2.2)
set_option maxHeartbeats 8000000 in
theorem cTBytes (hk : 1 ≤ k) (hk8 : k ≤ 8) (hB : (treeB k m T.pu).length ≤ 1000000) (hm : m ≤ 100) (hRl : T.R.length ≤ 1000) (hNl : T.N.length ≤ 1000000) (hkl : ∀ x ∈ T.N, x.ks.length ≤ 1000000) (hf : ∀ x ∈ T.R, x.f.length = m) (hJ : Ent J (Bn (tR tb k m leaf T)) := by exact jA) :
    Tr TP 31 [pb tb] (Ctx J H) (fun q : Q2 => .slice q.1 (treeB k m T.pu).length q.2) (fun _ => True) (fun q => Ctx J (sl f8 1 5 q.1 q.2 (treeB k m T.pu) :: H)) := by
  have eT : treeB k m T.pu = le 1 (uw k) ++ le 2 (uw m) ++ le 4 (uw T.R.length) ++ T.R.flatMap (fun x => recB k x.pl) ++ le 4 (uw T.N.length) ++ T.N.flatMap (fun x => nodB x.pn) := by
    simp [treeB, TS.pu, List.flatMap_map]
  rw [eT] at hB ⊢
  generalize hP0 : le 1 (uw k) ++ le 2 (uw m) ++ le 4 (uw T.R.length) = P0 at hB ⊢
  have hB2 : P0.length + (T.R.flatMap (fun x => recB k x.pl)).length + 4 + (T.N.flatMap (fun x => nodB x.pn)).length ≤ 1000000 := by
    rw [List.length_append, List.length_append, List.length_append, le_len] at hB; omega
  refine en0 Tryz.func31 rfl rfl rfl (addS5 hJ ?_)
  refine go ?_
  refine cg (cTNone (m := m) (leaf := leaf) (T := T) hk) fun _ _ => ?_
  intro c
  refine prec (C' := Ctx _ (bwH c (none, 0) [] H)) (fun w h => (Ctx.nl h).perm (List.Perm.swap ..)) ?_
  refine cg (cPutB (z := 1) (by simp) (by omega)) fun q1 _ => ?_
  refine cg (cPutB (z := 2) (by simp) (by omega)) fun q2 _ => ?_
  refine cg (cPutB (z := 4) (by simp) (by omega)) fun q3 _ => ?_
  rw [List.nil_append, hP0]
  have hP0l : P0.length = 7 := by rw [← hP0]; simp
  refine lp (X := Nat × Q2) (fun x => x.1 ≤ T.R.length) (fun (i, q) => [(0, pb tb), (3, pb c), (4, .func (.func 84) #[] #[pb c]), (40, .slice T.qR.1 T.R.length T.qR.2), (41, .int .i64 T.R.length), (42, .int .i64 i)])
    (fun (i, q) => Ctx ((pt tb 134 (tC k m leaf T)).A :: Rs fRec 10 T.qR.1 T.qR.2 T.R :: Rs fNd 4 T.qN.1 T.qN.2 T.N :: AllE figJ T.R :: AllE kidJ T.N :: Bn (tR tb k m leaf T) :: J) (bwH c q (P0 ++ (T.R.take i).flatMap (fun x => recB k x.pl)) H)) (fun x => T.R.length - x.1) (0, q3) (by dsimp only; omega) rfl (fun _ h => by simpa using h) fun (i, q) hi => ?_
  dsimp only at hi
  have hfm := fm_le (l := T.R) (g := fun x => recB k x.pl) i
  refine go ?_
  refine ⟨fun h1 => ?_, fun h1 => ?_⟩
  · have hi1 : i < T.R.length := by omega
    have hfl1 : T.R[i].f.length ≤ 100 := by rw [hf _ (List.getElem_mem hi1)]; exact hm
    have hfm2 := fm_le (l := T.R) (g := fun x => recB k x.pl) (i + 1)
    rw [fm_take hi1, List.length_append] at hfm2
    refine go ?_
    intro x6
    refine fzp ?_
    refine go ?_
    obtain ⟨I, hI⟩ : ∃ I, I = T.R[i].ids.take k := ⟨_, rfl⟩
    have hIl : I.length = k := by rw [hI, List.length_take]; simp [Rec.ids]; omega
    obtain ⟨PA, hPA⟩ : ∃ PA, PA = P0 ++ (T.R.take i).flatMap (fun x => recB k x.pl) := ⟨_, rfl⟩
    have hPAl : PA.length = 7 + ((T.R.take i).flatMap (fun x => recB k x.pl)).length := by rw [hPA, List.length_append, hP0l]
    have hrl : (recB k T.R[i].pl).length = (I.flatMap idB).length + 8 + (T.R[i].f.flatMap figB).length := by rw [hI]; simp only [recB, Rec.pl, List.length_append, le_len]
    rw [← hPA]
    refine hA rfl rfl rfl ((qSlH (ofs := 0) rfl rfl rfl rfl (by decide) hk8).os (fun _ _ => trivial)) rfl ?_
    refine addJ (R := Rs fi 1 (some ⟨x6, 0, none⟩) 8 I) (fun w j => by rw [hI]; exact rs_take (rec_ids (x := T.R[i]) j.1)) ?_
    subst hIl
    refine go ?_
    refine lp (X := Nat × Q2) (fun x => x.1 ≤ I.length) (fun (j, q) => [(0, pb tb), (3, pb c), (4, .func (.func 84) #[] #[pb c]), (6, pb x6), (40, .slice T.qR.1 T.R.length T.qR.2), (41, .int .i64 T.R.length), (42, .int .i64 i), (51, .slice (some ⟨x6, 0, none⟩) I.length 8), (52, .int .i64 I.length), (53, .int .i64 j)])
      (fun (j, q) => Ctx (Rs fi 1 (some ⟨x6, 0, none⟩) 8 I :: (pt x6 139 (fRec T.R[i])).A :: (pt tb 134 (tC I.length m leaf T)).A :: Rs fRec 10 T.qR.1 T.qR.2 T.R :: Rs fNd 4 T.qN.1 T.qN.2 T.N :: AllE figJ T.R :: AllE kidJ T.N :: Bn (tR tb I.length m leaf T) :: J) (bwH c q (PA ++ (I.take j).flatMap idB) H)) (fun x => I.length - x.1) (0, q) (by dsimp only; omega) rfl (fun _ h => by dsimp only; rw [List.take_zero, List.flatMap_nil, List.append_nil]; exact h) fun (j, q4) hj => ?_
    dsimp only at hj
    have hfi := fm_le (l := I) (g := idB) j
    refine go ?_
    refine ⟨fun h2 => ?_, fun h2 => ?_⟩
    · have hj1 : j < I.length := by omega
      refine go ?_
      refine cg (cPutB (z := 4) (by simp only [List.length_append]; omega) (by omega)) fun q5 _ => ?_
      exact en (j + 1, q5) ⟨by dsimp only; omega, by dsimp only; omega⟩ rfl (fun _ h => by dsimp only; rw [fm_take hj1, ← List.append_assoc]; exact h)
    · obtain rfl : j = I.length := by omega
      refine go ?_
      rw [show I.take I.length = I from List.take_length]
      refine cg (cPutB (z := 8) (by simp only [List.length_append]; omega) (by omega)) fun q5 _ => ?_
      refine addJ (R := Rs fFig 3 T.R[i].q.1 T.R[i].q.2 T.R[i].f) (fun w j => j.2.2.2.2.2.1 _ (List.getElem_mem hi1)) ?_
      obtain ⟨PB, hPB⟩ : ∃ PB, PB = PA ++ I.flatMap idB ++ le 8 (uw T.R[i].n) := ⟨_, rfl⟩
      have hPBl : PB.length = PA.length + (I.flatMap idB).length + 8 := by rw [hPB, List.length_append, List.length_append, le_len]
      rw [← hPB]
      refine lp (X := Nat × Q2) (fun x => x.1 ≤ T.R[i].f.length) (fun (j, q) => [(0, pb tb), (3, pb c), (4, .func (.func 84) #[] #[pb c]), (40, .slice T.qR.1 T.R.length T.qR.2), (41, .int .i64 T.R.length), (42, .int .i64 i), (67, .slice T.R[i].q.1 T.R[i].f.length T.R[i].q.2), (68, .int .i64 T.R[i].f.length), (69, .int .i64 j)])
        (fun (j, q) => Ctx (Rs fFig 3 T.R[i].q.1 T.R[i].q.2 T.R[i].f :: Rs fi 1 (some ⟨x6, 0, none⟩) 8 I :: (pt x6 139 (fRec T.R[i])).A :: (pt tb 134 (tC I.length m leaf T)).A :: Rs fRec 10 T.qR.1 T.qR.2 T.R :: Rs fNd 4 T.qN.1 T.qN.2 T.N :: AllE figJ T.R :: AllE kidJ T.N :: Bn (tR tb I.length m leaf T) :: J) (bwH c q (PB ++ (T.R[i].f.take j).flatMap figB) H)) (fun x => T.R[i].f.length - x.1) (0, q5) (by dsimp only; omega) rfl (fun _ h => by dsimp only; rw [List.take_zero, List.flatMap_nil, List.append_nil]; exact h) fun (j, q6) hj2 => ?_
      dsimp only at hj2
      have hff := fm_le (l := T.R[i].f) (g := figB) j
      refine go ?_
      refine ⟨fun h3 => ?_, fun h3 => ?_⟩
      · have hj1 : j < T.R[i].f.length := by omega
        have hff2 := fm_le (l := T.R[i].f) (g := figB) (j + 1)
        rw [fm_take hj1, List.length_append, show (figB (T.R[i].f[j])).length = 24 by simp [figB]] at hff2
        refine go ?_
        intro x10
        refine fzpc ?_
        refine cg (cPutB (z := 8) (by simp only [List.length_append]; omega) (by omega)) fun q7 _ => ?_
        refine cg (cPutB (z := 8) (by simp only [List.length_append, le_len]; omega) (by omega)) fun q8 _ => ?_
        refine cg (cPutB (z := 8) (by simp only [List.length_append, le_len]; omega) (by omega)) fun q9 _ => ?_
        exact en (j + 1, q9) ⟨by dsimp only; omega, by dsimp only; omega⟩ rfl (fun _ h => by dsimp only; rw [fm_take hj1]; simp only [figB, ← List.append_assoc]; exact h.ent fun _ j => j.2)
      · obtain rfl : j = T.R[i].f.length := by omega
        refine go ?_
        have hrec : recB I.length T.R[i].pl = I.flatMap idB ++ le 8 (uw T.R[i].n) ++ T.R[i].f.flatMap figB := by
          unfold recB
          rw [show T.R[i].pl.1.take I.length = I from hI.symm]; rfl
        exact en (i + 1, q6) ⟨by dsimp only; omega, by dsimp only; omega⟩ rfl (fun _ h => by
          dsimp only at h ⊢
          rw [List.take_length, hPB, hPA] at h
          rw [fm_take hi1, hrec]
          simp only [List.append_assoc] at h ⊢
          exact h.ent fun _ j => j.2.2.2)
  · obtain rfl : i = T.R.length := by omega
    refine go ?_
    rw [List.take_length]
    refine cg (cPutB (z := 4) (by simp only [List.length_append]; omega) (by omega)) fun q1 _ => ?_
    obtain ⟨PN, hPN⟩ : ∃ PN, PN = P0 ++ T.R.flatMap (fun x => recB k x.pl) ++ le 4 (uw T.N.length) := ⟨_, rfl⟩
    have hPNl : PN.length = 7 + (T.R.flatMap (fun x => recB k x.pl)).length + 4 := by rw [hPN, List.length_append, List.length_append, le_len, hP0l]
    rw [← hPN]
    refine lp (X := Nat × Q2) (fun x => x.1 ≤ T.N.length) (fun (i, q) => [(3, pb c), (4, .func (.func 84) #[] #[pb c]), (97, .slice T.qN.1 T.N.length T.qN.2), (98, .int .i64 T.N.length), (99, .int .i64 i)])
      (fun (i, q) => Ctx ((pt tb 134 (tC k m leaf T)).A :: Rs fRec 10 T.qR.1 T.qR.2 T.R :: Rs fNd 4 T.qN.1 T.qN.2 T.N :: AllE figJ T.R :: AllE kidJ T.N :: Bn (tR tb k m leaf T) :: J) (bwH c q (PN ++ (T.N.take i).flatMap (fun x => nodB x.pn)) H)) (fun x => T.N.length - x.1) (0, q1) (by dsimp only; omega) rfl (fun _ h => by dsimp only; rw [List.take_zero, List.flatMap_nil, List.append_nil]; exact h) fun (i, q) hi => ?_
    dsimp only at hi
    have hfm := fm_le (l := T.N) (g := fun x => nodB x.pn) i
    refine go ?_
    refine ⟨fun h1 => ?_, fun h1 => ?_⟩
    · have hi1 : i < T.N.length := by omega
      have hkl1 := hkl _ (List.getElem_mem hi1)
      have hfm2 := fm_le (l := T.N) (g := fun x => nodB x.pn) (i + 1)
      rw [fm_take hi1, List.length_append, show (nodB T.N[i].pn).length = 13 + (T.N[i].ks.flatMap kidB).length by simp only [nodB, Nd.pn, List.length_append, le_len]] at hfm2
      refine go ?_
      intro x12
      refine fzpc ?_
      refine cg (cPutB (z := 1) (by simp only [List.length_append]; omega) (by omega)) fun q2 _ => ?_
      refine cg (cPutB (z := 4) (by simp only [List.length_append, le_len]; omega) (by omega)) fun q3 _ => ?_
      refine cg (cPutB (z := 4) (by simp only [List.length_append, le_len]; omega) (by omega)) fun q4 _ => ?_
      refine cg (cPutB (z := 4) (by simp only [List.length_append, le_len]; omega) (by omega)) fun q5 _ => ?_
      refine addJ (R := Rs fKid 2 T.N[i].q.1 T.N[i].q.2 T.N[i].ks) (fun w j => j.2.2.2.2.2.1 _ (List.getElem_mem hi1)) ?_
      obtain ⟨PB, hPB⟩ : ∃ PB, PB = PN ++ (T.N.take i).flatMap (fun x => nodB x.pn) ++ le 1 (uw T.N[i].d) ++ le 4 (uw T.N[i].f) ++ le 4 (uw T.N[i].t) ++ le 4 (uw T.N[i].ks.length) := ⟨_, rfl⟩
      have hPBl : PB.length = PN.length + ((T.N.take i).flatMap (fun x => nodB x.pn)).length + 13 := by rw [hPB]; simp only [List.length_append, le_len]
      rw [← hPB]
      refine lp (X := Nat × Q2) (fun x => x.1 ≤ T.N[i].ks.length) (fun (j, q) => [(3, pb c), (4, .func (.func 84) #[] #[pb c]), (97, .slice T.qN.1 T.N.length T.qN.2), (98, .int .i64 T.N.length), (99, .int .i64 i), (121, .slice T.N[i].q.1 T.N[i].ks.length T.N[i].q.2), (122, .int .i64 T.N[i].ks.length), (123, .int .i64 j)])
        (fun (j, q) => Ctx (Rs fKid 2 T.N[i].q.1 T.N[i].q.2 T.N[i].ks :: (pt x12 183 (fNd T.N[i])).A :: (pt tb 134 (tC k m leaf T)).A :: Rs fRec 10 T.qR.1 T.qR.2 T.R :: Rs fNd 4 T.qN.1 T.qN.2 T.N :: AllE figJ T.R :: AllE kidJ T.N :: Bn (tR tb k m leaf T) :: J) (bwH c q (PB ++ (T.N[i].ks.take j).flatMap kidB) H)) (fun x => T.N[i].ks.length - x.1) (0, q5) (by dsimp only; omega) rfl (fun _ h => by dsimp only; rw [List.take_zero, List.flatMap_nil, List.append_nil]; exact h) fun (j, q6) hj2 => ?_
      dsimp only at hj2
      have hff := fm_le (l := T.N[i].ks) (g := kidB) j
      refine go ?_
      refine ⟨fun h3 => ?_, fun h3 => ?_⟩
      · have hj1 : j < T.N[i].ks.length := by omega
        have hff2 := fm_le (l := T.N[i].ks) (g := kidB) (j + 1)
        rw [fm_take hj1, List.length_append, show (kidB (T.N[i].ks[j])).length = 8 by simp [kidB, idB]] at hff2
        refine go ?_
        intro x14
        refine fzpc ?_
        refine cg (cPutB (z := 4) (by simp only [List.length_append]; omega) (by omega)) fun q7 _ => ?_
        refine cg (cPutB (z := 4) (by simp only [List.length_append, le_len]; omega) (by omega)) fun q8 _ => ?_
        exact en (j + 1, q8) ⟨by dsimp only; omega, by dsimp only; omega⟩ rfl (fun _ h => by dsimp only; rw [fm_take hj1]; simp only [kidB, idB, ← List.append_assoc]; exact h.ent fun _ j => j.2)
      · obtain rfl : j = T.N[i].ks.length := by omega
        refine go ?_
        exact en (i + 1, q6) ⟨by dsimp only; omega, by dsimp only; omega⟩ rfl (fun _ h => by
          dsimp only at h ⊢
          rw [List.take_length, hPB] at h
          rw [fm_take hi1]
          simp only [nodB, Nd.pn, List.append_assoc] at h ⊢
          exact h.ent fun _ j => j.2.2)
    · obtain rfl : i = T.N.length := by omega
      refine go ?_
      rw [List.take_length]
      rw [hPN]
      exact rt q trivial rfl (fun _ h => h.rest.ent fun _ j => j.2.2.2.2.2.2)
end
end
end Go.Proofs.YtimemehaccgmmaaGreatDoor
