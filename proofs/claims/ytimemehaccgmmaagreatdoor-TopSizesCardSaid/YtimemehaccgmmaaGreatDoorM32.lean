/-
  Parts of the walks and their plain laws (K12 K10 E32). No condition.
-/
import Derived.Test.YtimemehaccgmmaaGreatDoorM30
import Derived.Test.YtimemehaccgmmaaGreatDoorM31
import Derived.Test.YtimemehaccgmmaaGreatDoorM14
namespace Go.Proofs.YtimemehaccgmmaaGreatDoor
open Go.RowKit
set_option linter.unusedSimpArgs false
set_option linter.unusedVariables false
noncomputable section
/-- How many rows there are in records. -/
def cnt (l : List Pl) : Int := (l.map fun r => r.2.1).sum
def PosR (l : List Pl) : Prop := ∀ r ∈ l, 1 ≤ r.2.1
theorem cnt_app (a b : List Pl) : cnt (a ++ b) = cnt a + cnt b := by simp [cnt]
theorem cnt_pos : ∀ {l : List Pl}, PosR l → 0 ≤ cnt l
  | [], _ => by simp [cnt]
  | r :: l, h => by
    have h1 := h r (List.mem_cons_self ..)
    have h2 := cnt_pos (l := l) fun x hx => h x (List.mem_cons_of_mem _ hx)
    simp only [cnt, List.map_cons, List.sum_cons] at h2 ⊢; omega
theorem cnt_mem {l : List Pl} (h : PosR l) {r : Pl} (hr : r ∈ l) : r.2.1 ≤ cnt l := by
  obtain ⟨a, b, rfl⟩ := List.append_of_mem hr
  have h1 := cnt_pos (l := a) fun x hx => h x (List.mem_append_left _ hx)
  have h2 := cnt_pos (l := b) fun x hx => h x (List.mem_append_right _ (List.mem_cons_of_mem _ hx))
  rw [cnt_app]
  have : cnt (r :: b) = r.2.1 + cnt b := by simp [cnt]
  omega
theorem cnt_perm {a b : List Pl} (h : a.Perm b) : cnt a = cnt b := by
  induction h with
  | nil => rfl
  | cons x _ ih => simp only [cnt, List.map_cons, List.sum_cons] at ih ⊢; omega
  | swap x y l => simp only [cnt, List.map_cons, List.sum_cons]; omega
  | trans _ _ h1 h2 => exact h1.trans h2
/-- What records come to that are put together. -/
structure TogOk (L out : List Pl) : Prop where
  ids : ∀ r ∈ out, ∃ x ∈ L, r.1 = x.1
  pos : PosR out
  cnt : cnt out = cnt L
theorem wr_in {a : Int} (h : 0 ≤ a) (h2 : a ≤ 1000000000) : IntKind.i64.wrap a = a := IntWalk.i64_in _ (by omega)
theorem tgS_ok {a L : List Pl} {r : Pl} (h : TogOk L a) (hr : 1 ≤ r.2.1) (hb : cnt L + r.2.1 ≤ 1000000000) : TogOk (L ++ [r]) (tgS a r) := by
  have h1 : cnt (L ++ [r]) = cnt L + r.2.1 := by rw [cnt_app]; simp [cnt]
  unfold tgS
  split
  · next s hs =>
    have ha : a = a.dropLast ++ [s] := by
      have hne : a ≠ [] := fun e => by rw [e] at hs; cases hs
      rw [List.getLast?_eq_some_getLast hne] at hs
      have := List.dropLast_concat_getLast hne
      rw [Option.some.inj hs] at this
      exact this.symm
    split
    · next he =>
      have hs0 : s ∈ a := by rw [ha]; simp
      have hsp := h.pos s hs0
      have hsc := cnt_mem h.pos hs0
      have hca : cnt a = cnt a.dropLast + s.2.1 := by
        have := cnt_app a.dropLast [s]
        rw [← ha] at this; rw [this]; simp [cnt]
      have hw : (addR s r).2.1 = s.2.1 + r.2.1 := wr_in (by omega) (by have := h.cnt; omega)
      refine ⟨fun x hx => ?_, fun x hx => ?_, ?_⟩
      · rcases List.mem_append.1 hx with hx | hx
        · obtain ⟨y, hy, e⟩ := h.ids x (List.dropLast_subset _ hx)
          exact ⟨y, List.mem_append_left _ hy, e⟩
        · rw [List.mem_singleton.1 hx]
          exact ⟨r, by simp, he⟩
      · rcases List.mem_append.1 hx with hx | hx
        · exact h.pos x (List.dropLast_subset _ hx)
        · rw [List.mem_singleton.1 hx, hw]; omega
      · rw [cnt_app, h1, ← h.cnt, hca]
        have : cnt [addR s r] = (addR s r).2.1 := by simp [cnt]
        rw [this, hw]; omega
    · refine ⟨fun x hx => ?_, fun x hx => ?_, ?_⟩
      · rcases List.mem_append.1 hx with hx | hx
        · obtain ⟨y, hy, e⟩ := h.ids x hx
          exact ⟨y, List.mem_append_left _ hy, e⟩
        · rw [List.mem_singleton.1 hx]; exact ⟨r, by simp, rfl⟩
      · rcases List.mem_append.1 hx with hx | hx
        · exact h.pos x hx
        · rw [List.mem_singleton.1 hx]; exact hr
      · rw [cnt_app, h1, h.cnt]; simp [cnt]
  · next hs =>
    have ha : a = [] := List.getLast?_eq_none_iff.1 hs
    subst ha
    have h0 : cnt L = 0 := h.cnt.symm
    refine ⟨fun x hx => ?_, fun x hx => ?_, ?_⟩
    · rw [List.mem_singleton.1 hx]; exact ⟨r, by simp, rfl⟩
    · rw [List.mem_singleton.1 hx]; exact hr
    · rw [h1, h0]; simp [cnt]
theorem tgF_ok : ∀ (R L a : List Pl), TogOk L a → PosR R → cnt L + cnt R ≤ 1000000000 → TogOk (L ++ R) (R.foldl tgS a)
  | [], L, a, h, _, _ => by simpa using h
  | r :: R, L, a, h, hp, hb => by
    have h1 := hp r (List.mem_cons_self ..)
    have h2 : PosR R := fun x hx => hp x (List.mem_cons_of_mem _ hx)
    have h3 := cnt_pos h2
    have h4 : cnt (r :: R) = r.2.1 + cnt R := by simp [cnt]
    have h5 : cnt (L ++ [r]) = cnt L + r.2.1 := by rw [cnt_app]; simp [cnt]
    have := tgF_ok R (L ++ [r]) (tgS a r) (tgS_ok h h1 (by omega)) h2 (by omega)
    simpa using this
theorem togs_ok {L : List Pl} (hp : PosR L) (hb : cnt L ≤ 1000000000) : TogOk L (togs L) := by
  have hpm := (srtP_ok L).perm ltP_swo
  have h1 : cnt (srtP L) = cnt L := cnt_perm hpm
  have h0 : TogOk [] [] := ⟨(fun _ h => nomatch h), (fun _ h => nomatch h), rfl⟩
  have := tgF_ok (srtP L) [] [] h0 (fun x hx => hp x (hpm.mem_iff.1 hx)) (by rw [h1]; simpa [cnt] using hb)
  rw [List.nil_append] at this
  refine ⟨fun r hr => ?_, this.pos, ?_⟩
  · obtain ⟨x, hx, e⟩ := this.ids r hr
    exact ⟨x, hpm.mem_iff.1 hx, e⟩
  · rw [← h1]; exact this.cnt
/-- How many stars a record has. -/
def stars (k : Nat) (r : Pl) : Nat := ((r.1.take k).filter fun i => decide (i = -1)).length
def IdsOk (l : List Pl) : Prop := ∀ r ∈ l, r.1.length = 8 ∧ ∀ i ∈ r.1, 0 ≤ i
theorem fil_nil {l : List Int} (h : ∀ i ∈ l, 0 ≤ i) : l.filter (fun i => decide (i = -1)) = [] := by
  rw [List.filter_eq_nil_iff]; intro i hi; have := h i hi; simp; omega
theorem stars_zero {k : Nat} {r : Pl} (h : ∀ i ∈ r.1, 0 ≤ i) : stars k r = 0 := by
  unfold stars
  rw [fil_nil fun i hi => h i (List.mem_of_mem_take hi)]; rfl
theorem stars_one {k d : Nat} {r : Pl} (hl : r.1.length = 8) (h : ∀ i ∈ r.1, 0 ≤ i) (hd : d < k) (hk : k ≤ 8) : stars k (starAt d r) = 1 := by
  unfold stars starAt
  dsimp only
  rw [List.set_eq_take_append_cons_drop, if_pos (by omega), List.take_append, List.length_take, Nat.min_eq_left (by omega), show k - d = (k - d - 1) + 1 by omega, List.take_succ_cons, List.filter_append, List.filter_cons]
  rw [fil_nil fun i hi => h i (List.mem_of_mem_take (List.mem_of_mem_take hi)), fil_nil fun i hi => h i (List.mem_of_mem_drop (List.mem_of_mem_take hi))]
  simp
/-- What grows below stars has no records of its own. -/
theorem kids_R {g : Nat → Nat → St → St} (hg : ∀ a e T, (g a e T).R = T.R) (R : List Pl) (d q : Nat) : ∀ n a S ks, (kidsP g R d q n a S ks).1.R = S.R
  | 0, a, S, ks => rfl
  | n + 1, a, S, ks => by
    unfold kidsP
    split
    · rw [kids_R hg R d q n, hg]
    · rfl
theorem grow_R (leaf k : Nat) : ∀ f p q S, (growP leaf k f true p q S).R = S.R
  | 0, p, q, S => rfl
  | f + 1, p, q, S => by
    unfold growP
    split
    · rfl
    · have := kids_R (g := fun a e T => growP leaf k f true a e T) (fun a e T => grow_R leaf k f a e T) S.R (k - (f + 1)) q (q - p) p ⟨S.R, S.N ++ [⟨k - (f + 1), p, q, []⟩]⟩ []
      simpa using this
/-- What grows beside a base. -/
def GOk (k : Nat) (B R : List Pl) : Prop := ∃ E, R = B ++ E ∧ ∀ r ∈ E, stars k r = 1 ∧ 1 ≤ r.2.1 ∧ r.2.1 ≤ cnt B
theorem kids_ok {k : Nat} {B : List Pl} {g : Nat → Nat → St → St} {q : Nat} (hg : ∀ a e T, e ≤ q → GOk k B T.R → GOk k B (g a e T).R) (R : List Pl) (d : Nat) : ∀ n a S ks, GOk k B S.R → GOk k B (kidsP g R d q n a S ks).1.R
  | 0, a, S, ks, h => h
  | n + 1, a, S, ks, h => by
    unfold kidsP
    split
    · have := (runEnd_bd R d (idAt R a d) (q - a) a).2
      exact kids_ok hg R d n _ _ _ (hg _ _ _ (by omega) h)
    · exact h
theorem grow_ok {leaf k : Nat} {B : List Pl} (hk : k ≤ 8) (hB : IdsOk B) (hp : PosR B) (hb : cnt B ≤ 1000000000) : ∀ f p q S, f ≤ k → q ≤ B.length → GOk k B S.R → GOk k B (growP leaf k f false p q S).R
  | 0, p, q, S, _, _, h => h
  | f + 1, p, q, S, hf, hq, h => by
    unfold growP
    split
    · exact h
    · have hk1 := kids_ok (k := k) (B := B) (q := q) (g := fun a e T => growP leaf k f false a e T) (fun a e T he hT => grow_ok hk hB hp hb f a e T (by omega) (by omega) hT) S.R (k - (f + 1)) (q - p) p ⟨S.R, S.N ++ [⟨k - (f + 1), p, q, []⟩]⟩ [] h
      generalize kidsP (fun a e T => growP leaf k f false a e T) S.R (k - (f + 1)) q (q - p) p ⟨S.R, S.N ++ [⟨k - (f + 1), p, q, []⟩]⟩ [] = r at *
      dsimp only
      rw [if_neg (by simp)]
      dsimp only
      rw [grow_R]
      obtain ⟨E, e1, e2⟩ := hk1
      have hsr : starRecs r.1.R (k - (f + 1)) p q = starRecs B (k - (f + 1)) p q := by rw [e1]; exact starRecs_append hq
      rw [hsr]
      -- the starred ones
      have hsub : ∀ x ∈ (B.take q).drop p, x ∈ B := fun x hx => List.mem_of_mem_take (List.mem_of_mem_drop hx)
      have hcs : cnt (((B.take q).drop p).map (starAt (k - (f + 1)))) = cnt ((B.take q).drop p) := by
        unfold cnt; rw [List.map_map]; rfl
      have hcB : cnt ((B.take q).drop p) ≤ cnt B := by
        have h1 : cnt B = cnt (B.take q) + cnt (B.drop q) := by rw [← cnt_app, List.take_append_drop]
        have h2 : cnt (B.take q) = cnt ((B.take q).take p) + cnt ((B.take q).drop p) := by rw [← cnt_app, List.take_append_drop]
        have h3 := cnt_pos (l := B.drop q) fun x hx => hp x (List.mem_of_mem_drop hx)
        have h4 := cnt_pos (l := (B.take q).take p) fun x hx => hp x (List.mem_of_mem_take (List.mem_of_mem_take hx))
        omega
      have hps : PosR (((B.take q).drop p).map (starAt (k - (f + 1)))) := fun x hx => by
        obtain ⟨y, hy, rfl⟩ := List.mem_map.1 hx
        exact hp y (hsub y hy)
      have ht := togs_ok hps (by omega)
      refine ⟨E ++ starRecs B (k - (f + 1)) p q, by rw [e1, List.append_assoc], fun x hx => ?_⟩
      rcases List.mem_append.1 hx with hx | hx
      · exact e2 x hx
      · refine ⟨?_, ht.pos x hx, ?_⟩
        · obtain ⟨y, hy, e⟩ := ht.ids x hx
          obtain ⟨z, hz, rfl⟩ := List.mem_map.1 hy
          obtain ⟨z1, z2⟩ := hB z (hsub z hz)
          have h9 := stars_one (k := k) (d := k - (f + 1)) z1 z2 (by omega) hk
          unfold stars at h9 ⊢
          rw [e]; exact h9
        · have h1 := cnt_mem ht.pos hx
          rw [ht.cnt, hcs] at h1
          omega
/-- The tree that is made of rows. -/
def ofS (leaf k : Nat) (L : List Pl) : St := growP leaf k k false 0 (togs L).length ⟨togs L, []⟩
theorem of_len (leaf k : Nat) (L : List Pl) : (ofS leaf k L).R.length ≤ (k + 1) * L.length := by
  have h1 := (grow_bound leaf k k false 0 (togs L).length ⟨togs L, []⟩ (by omega)).1
  have h2 := togs_len L
  simp only [Bool.false_eq_true, if_false, Nat.sub_zero] at h1
  have h3 : k * (togs L).length ≤ k * L.length := Nat.mul_le_mul_left _ h2
  have h4 : (k + 1) * L.length = k * L.length + L.length := Nat.succ_mul _ _
  unfold ofS; omega
theorem of_law {leaf k : Nat} {L : List Pl} (hk : k ≤ 8) (hI : IdsOk L) (hc : ∀ r ∈ L, r.2.1 = 1) (hL : L.length ≤ 1000) :
    ∃ B E, (ofS leaf k L).R = B ++ E ∧ B.length ≤ L.length ∧ cnt B = L.length ∧ (∀ r ∈ B, stars k r = 0 ∧ 1 ≤ r.2.1 ∧ r.2.1 ≤ L.length) ∧ ∀ r ∈ E, stars k r = 1 ∧ 1 ≤ r.2.1 ∧ r.2.1 ≤ L.length := by
  have hp : PosR L := fun r hr => by rw [hc r hr]; omega
  have hcL : cnt L = L.length := by
    clear hI hL hp
    induction L with
    | nil => rfl
    | cons r l ih =>
      have h1 := hc r (List.mem_cons_self ..)
      have h2 := ih fun x hx => hc x (List.mem_cons_of_mem _ hx)
      have : cnt (r :: l) = r.2.1 + cnt l := by simp [cnt]
      rw [this, h1, h2]; simp; omega
  have ht := togs_ok hp (by omega)
  have hcB := ht.cnt
  have hB : IdsOk (togs L) := fun r hr => by obtain ⟨x, hx, e⟩ := ht.ids r hr; rw [e]; exact hI x hx
  obtain ⟨E, e1, e2⟩ := grow_ok (leaf := leaf) (B := togs L) hk hB ht.pos (by omega) k 0 (togs L).length ⟨togs L, []⟩ (Nat.le_refl _) (Nat.le_refl _) ⟨[], by simp, (fun _ h => nomatch h)⟩
  refine ⟨togs L, E, e1, togs_len L, by omega, fun r hr => ⟨stars_zero (hB r hr).2, ht.pos r hr, ?_⟩, fun r hr => ?_⟩
  · have := cnt_mem ht.pos hr; omega
  · obtain ⟨a, b, c⟩ := e2 r hr; exact ⟨a, b, by omega⟩
end
end Go.Proofs.YtimemehaccgmmaaGreatDoor
namespace Go.Proofs.YtimemehaccgmmaaGreatDoor
open Go.RowKit
set_option maxRecDepth 100000
set_option linter.unusedVariables false
set_option linter.unusedSimpArgs false
noncomputable section
/-- A row's record. -/
def rowP (S : List (List Nat)) (M : List (List Int)) (i : Nat) : Pl := ((List.range 8).map fun j => (((S.getD j []).getD i 0 : Nat) : Int), 1, M.map fun l => ⟨l.getD i 0, l.getD i 0, l.getD i 0⟩)
def rowsP (S : List (List Nat)) (M : List (List Int)) (n : Nat) : List Pl := (List.range n).map (rowP S M)
section
variable {J : List (World → Prop)} {H : List RC} {ad ad2 ad3 : Option Addr} {cap cap2 cap3 : Nat} {sp : List (Q2 × List Nat)} {many : List Nat} {ms : List (Q2 × List Int)} {leaf n : Nat}
/-- A row's record, as far as it is made. -/
def rowR (sp : List (Q2 × List Nat)) (i k : Nat) (q : Q2) (f : List Fig) : Rec := ⟨fun j => if j < k then ((((sp.map (·.2)).getD j []).getD i 0 : Nat) : Int) else 0, 1, q, f⟩
theorem rowR_0 {i : Nat} : fRec (rowR sp i 0 (none, 0) []) = [.int .i64 0, .int .i64 0, .int .i64 0, .int .i64 0, .int .i64 0, .int .i64 0, .int .i64 0, .int .i64 0, .int .i64 1, .slice none 0 0] := by simp [fRec, rowR]
theorem rowR_s {i k : Nat} (hk : k < sp.length) (hi : i < sp[k].2.length) : (rowR sp i k (none, 0) []).sa k (sp[k].2[i] : Nat) = rowR sp i (k + 1) (none, 0) [] := by
  unfold Rec.sa rowR
  congr 1
  funext j
  dsimp only
  by_cases e : j = k
  · subst e
    rw [if_pos rfl, if_pos (by omega)]
    simp [hk, hi]
  · rw [if_neg e]
    by_cases e2 : j < k
    · rw [if_pos e2, if_pos (by omega)]
    · rw [if_neg e2, if_neg (by omega)]
theorem rowR_pl {i : Nat} {q : Q2} (hk : sp.length ≤ 8) : (rowR sp i sp.length q (ms.map fun l => ⟨l.2.getD i 0, l.2.getD i 0, l.2.getD i 0⟩)).pl = rowP (sp.map (·.2)) (ms.map (·.2)) i := by
  have h1 : ∀ j, (if j < sp.length then ((((sp.map (·.2)).getD j []).getD i 0 : Nat) : Int) else 0) = ((((sp.map (·.2)).getD j []).getD i 0 : Nat) : Int) := fun j => by
    by_cases e : j < sp.length
    · rw [if_pos e]
    · rw [if_neg e]
      have : (sp.map (·.2)).getD j [] = [] := by rw [List.getD_eq_getElem?_getD, List.getElem?_eq_none (by simp; omega)]; rfl
      rw [this]; rfl
  unfold Rec.pl rowP Rec.ids rowR
  simp only [h1, List.map_map]
  rfl
set_option maxHeartbeats 8000000 in
theorem cStOf (h : StOk sp many ms leaf n) (hJ : Ent J (Rs fNs 1 ad cap sp) := by exact jA) (hJ2 : Ent J (AllR fj 1 sp) := by exact jA) (hJ3 : Ent J (Rs fj 1 ad2 cap2 many) := by exact jA) (hJ4 : Ent J (Rs fNs 1 ad3 cap3 ms) := by exact jA) (hJ5 : Ent J (AllR fi 1 ms) := by exact jA) :
    Tr TP 30 [.slice ad sp.length cap, .slice ad2 many.length cap2, .slice ad3 ms.length cap3, .int .i64 leaf] (Ctx J H) (fun x : Nat × TS => .tuple #[pb x.1, .int .i64 0]) (fun x => x.2.pu = ofS leaf sp.length (rowsP (sp.map (·.2)) (ms.map (·.2)) n) ∧ ∀ y ∈ x.2.R, y.f.length = ms.length) (fun x => Ctx (Bn (tR x.1 sp.length ms.length leaf x.2) :: J) H) := by
  have h1 := h.k1
  have h2 := h.k8
  have h4 := h.mb
  have h6 := h.l2
  have h7 := h.nb
  refine en0 Tryz.func30 rfl rfl rfl (addJ hJ3 (addJ (fun w h => hJ5 w h.2) (addJ (fun w h => hJ4 w h.2.2) (addJ (fun w h => hJ2 w h.2.2.2) (addJ (fun w h => hJ w h.2.2.2.2) (go ?_))))))
  have hn0 : (sp[0]'(by omega)).2.length = n := h.sl _ (List.getElem_mem _)
  refine cg (cStMay h) fun _ _ => ?_
  rw [hn0]
  refine ⟨fun h => absurd h (by omega), fun _ => ?_⟩
  refine go ?_
  intro tb
  refine go ?_
  rw [hn0]
  refine lp (X := Nat × Q2 × List Rec) (fun x => x.1 ≤ n ∧ x.2.2.map Rec.pl = (List.range x.1).map (rowP (sp.map (·.2)) (ms.map (·.2)))) (fun (i, q, rows) => [(0, .slice ad sp.length cap), (2, .slice ad3 ms.length cap3), (10, pb tb), (11, .slice q.1 rows.length q.2), (40, .int .i64 n), (41, .int .i64 i)])
    (fun (i, q, rows) => Ctx (AllE figJ rows :: Rs fNs 1 ad cap sp :: AllR fj 1 sp :: Rs fNs 1 ad3 cap3 ms :: AllR fi 1 ms :: Rs fj 1 ad2 cap2 many :: J) (sl fRec 10 139 q.1 q.2 rows :: pt tb 134 [.int .i64 sp.length, .int .i64 ms.length, .int .i64 leaf, .slice none 0 0, .slice none 0 0] :: H)) (fun x => n - x.1) (0, (none, 0), []) (by simp) rfl (fun _ h => Ctx.nl (h.ent fun _ j => ⟨(fun _ h => nomatch h), j⟩)) fun (i, q, rows) ⟨hi, hr⟩ => ?_
  dsimp only at hi hr
  have hrl : rows.length = i := by have := congrArg List.length hr; simpa using this
  refine go ?_
  refine ⟨fun g1 => ?_, fun g1 => ?_⟩
  · have hi1 : i < n := by omega
    refine go ?_
    intro b
    refine lp (X := Nat) (fun k => k ≤ sp.length) (fun k => [(0, .slice ad sp.length cap), (2, .slice ad3 ms.length cap3), (10, pb tb), (11, .slice q.1 rows.length q.2), (12, .int .i64 i), (13, pb b), (40, .int .i64 n), (41, .int .i64 i), (45, .slice ad sp.length cap), (46, .int .i64 sp.length), (47, .int .i64 k)])
      (fun k => Ctx (AllE figJ rows :: Rs fNs 1 ad cap sp :: AllR fj 1 sp :: Rs fNs 1 ad3 cap3 ms :: AllR fi 1 ms :: Rs fj 1 ad2 cap2 many :: J) (pt b 139 (fRec (rowR sp i k (none, 0) [])) :: sl fRec 10 139 q.1 q.2 rows :: pt tb 134 [.int .i64 sp.length, .int .i64 ms.length, .int .i64 leaf, .slice none 0 0, .slice none 0 0] :: H)) (fun k => sp.length - k) 0 (by omega) rfl (fun _ h => by rw [rowR_0]; exact h) fun k hk => ?_
    refine go ?_
    refine ⟨fun g2 => ?_, fun g2 => ?_⟩
    · have hk1 : k < sp.length := by omega
      have hin : i < sp[k].2.length := by rw [h.sl _ (List.getElem_mem hk1)]; exact hi1
      refine addJ (R := Rs fj 1 sp[k].1.1 sp[k].1.2 sp[k].2) (fun w j => j.2.2.1.at hk1) ?_
      refine go ?_
      refine hA rfl rfl rfl ((qIxA (i := k) (off' := k) rfl rfl rfl rfl (by omega) (by simp [padd])).os (fun _ _ => trivial)) rfl ?_
      refine hA0 rfl rfl (oSt (k := 0) (q := fRec (rowR sp i (k + 1) (none, 0) [])) rfl rfl rfl rfl (by rw [← rowR_s hk1 hin]; exact st_rec (by omega)) rfl rfl rfl) rfl ?_
      refine go ?_
      exact en (k + 1) (by omega) rfl (fun _ h => h.ent fun _ j => j.2)
    · obtain rfl : k = sp.length := by omega
      refine go ?_
      refine pre (C' := Ctx (AllE figJ rows :: Rs fNs 1 ad cap sp :: AllR fj 1 sp :: Rs fNs 1 ad3 cap3 ms :: AllR fi 1 ms :: Rs fj 1 ad2 cap2 many :: J) (sl fFig 3 142 none 0 [] :: pt b 139 (fRec (rowR sp i sp.length (none, 0) [])) :: sl fRec 10 139 q.1 q.2 rows :: pt tb 134 [.int .i64 sp.length, .int .i64 ms.length, .int .i64 leaf, .slice none 0 0, .slice none 0 0] :: H)) (fun w h => Ctx.nl h) ?_
      obtain ⟨F, hF⟩ : ∃ F : List Fig, F = ms.map fun l => ⟨l.2.getD i 0, l.2.getD i 0, l.2.getD i 0⟩ := ⟨_, rfl⟩
      have hFl : F.length = ms.length := by rw [hF]; simp
      refine lp (X := Nat × Q2) (fun x => x.1 ≤ ms.length) (fun (k, qf) => [(0, .slice ad sp.length cap), (2, .slice ad3 ms.length cap3), (10, pb tb), (11, .slice q.1 rows.length q.2), (12, .int .i64 i), (13, pb b), (40, .int .i64 n), (41, .int .i64 i), (61, .slice ad3 ms.length cap3), (62, .int .i64 ms.length), (63, .int .i64 k)])
        (fun (k, qf) => Ctx (AllE figJ rows :: Rs fNs 1 ad cap sp :: AllR fj 1 sp :: Rs fNs 1 ad3 cap3 ms :: AllR fi 1 ms :: Rs fj 1 ad2 cap2 many :: J) (sl fFig 3 142 qf.1 qf.2 (F.take k) :: pt b 139 (fRec (rowR sp i sp.length qf (F.take k))) :: sl fRec 10 139 q.1 q.2 rows :: pt tb 134 [.int .i64 sp.length, .int .i64 ms.length, .int .i64 leaf, .slice none 0 0, .slice none 0 0] :: H)) (fun x => ms.length - x.1) (0, (none, 0)) (by dsimp only; omega) rfl (fun _ h => h) fun (k, qf) hk2 => ?_
      dsimp only at hk2
      refine go ?_
      refine ⟨fun g3 => ?_, fun g3 => ?_⟩
      · have hk1 : k < ms.length := by omega
        have hin : i < ms[k].2.length := by rw [h.tl _ (List.getElem_mem hk1)]; exact hi1
        refine addJ (R := Rs fi 1 ms[k].1.1 ms[k].1.2 ms[k].2) (fun w j => j.2.2.2.2.1.at hk1) ?_
        refine go ?_
        intro b1
        refine dp1 (f := fFig) ⟨ms[k].2[i], ms[k].2[i], ms[k].2[i]⟩ fun q2 => ?_
        have eF : F.take k ++ [⟨ms[k].2[i], ms[k].2[i], ms[k].2[i]⟩] = F.take (k + 1) := by
          rw [← List.take_append_getElem (show k < F.length by omega)]
          congr 1
          simp [hF, hin]
        rw [eF]
        refine go ?_
        exact en (k + 1, q2) ⟨by dsimp only; omega, by dsimp only; omega⟩ rfl (fun _ h => h.ent fun _ j => j.2)
      · obtain rfl : k = ms.length := by omega
        refine go ?_
        intro b1 q2
        rw [show F.take ms.length = F from List.take_of_length_le (by omega)]
        refine go ?_
        refine en (i + 1, q2, rows ++ [rowR sp i sp.length qf F]) ⟨⟨by dsimp only; omega, ?_⟩, by dsimp only; omega⟩ rfl (fun w h => ?_)
        · rw [List.map_append, hr, List.range_succ, List.map_append]
          congr 1
          simp only [List.map_cons, List.map_nil]
          rw [hF, rowR_pl (by omega)]
        · have h3 := h.drp 1
          exact h3.fzS.ent fun _ j => ⟨AllE.snoc (F := figJ) (a := rowR sp i sp.length qf F) j.2.1 j.1, j.2.2⟩
  · obtain rfl : i = n := by omega
    refine go ?_
    have hrf : ∀ x ∈ rows, x.f.length = ms.length := fun x hx => by
      have : x.pl ∈ (List.range i).map (rowP (sp.map (·.2)) (ms.map (·.2))) := by rw [← hr]; exact List.mem_map.2 ⟨x, hx, rfl⟩
      obtain ⟨j, -, e⟩ := List.mem_map.1 this
      have e2 := congrArg (fun p : Pl => p.2.2.length) e
      simpa [rowP, Rec.pl] using e2.symm
    refine ca (cTog (R := rows) (nf := ms.length) hrf (by omega) (by omega)) fun ⟨q3, l⟩ ⟨R', hR', hl⟩ => ?_
    dsimp only at hl
    have hl2 : l.map Rec.pl = togs (rowsP (sp.map (·.2)) (ms.map (·.2)) i) := by rw [hl, togs_of hR', hr]; rfl
    have hll : l.length ≤ 60 := by
      have h1 := congrArg List.length hl2
      have h2 := togs_len (rowsP (sp.map (·.2)) (ms.map (·.2)) i)
      simp only [rowsP, List.length_map, List.length_range] at h1 h2; omega
    have hlf : ∀ x ∈ l, x.f.length = ms.length := fun x hx => by
      have : x.pl ∈ togs (rows.map Rec.pl) := by rw [hr]; show _ ∈ togs (rowsP _ _ i); rw [← hl2]; exact List.mem_map.2 ⟨x, hx, rfl⟩
      exact togs_f (L := rows.map Rec.pl) (fun y hy => by obtain ⟨z, hz, rfl⟩ := List.mem_map.1 hy; exact hrf z hz) _ this
    refine go ?_
    dsimp only
    refine frc 1 rfl ?_
    have hgb := grow_bound leaf sp.length sp.length false 0 l.length (TS.pu ⟨l, q3, [], (none, 0)⟩) (by omega)
    have hp4 : 4 ^ sp.length ≤ 4 ^ 4 := Nat.pow_le_pow_right (by omega) h2
    have hmul : 4 ^ sp.length * (l.length - 0 + 1) ≤ 256 * 61 := Nat.mul_le_mul hp4 (by omega)
    have hmul2 : sp.length * (l.length - 0) ≤ 4 * 60 := Nat.mul_le_mul h2 (by omega)
    have hpR : (TS.pu ⟨l, q3, [], (none, 0)⟩).R.length = l.length := pu_R
    have hpN : (TS.pu ⟨l, q3, [], (none, 0)⟩).N.length = 0 := pu_N
    simp only [Bool.false_eq_true, if_false, hpR, hpN] at hgb
    refine prec (C' := Ctx _ (tH tb sp.length ms.length leaf ⟨l, q3, [], (none, 0)⟩ H)) (fun w h => (Ctx.nl h).perm ((List.Perm.swap _ _ _).trans ((List.Perm.swap _ _ _).cons _))) ?_
    refine ca (cGrw (k := sp.length) (m := ms.length) (by omega) (by omega) h6 sp.length (T := ⟨l, q3, [], (none, 0)⟩) (d := 0) (p := 0) (q := l.length) (st := false) (by omega) jA (by intro w _ x hx; cases hx) ⟨by omega, by omega⟩ (by simp) hlf (by omega) (by omega)) fun S2 ⟨hS2, hf2⟩ => ?_
    refine go ?_
    refine fzp (fz (fz ?_))
    refine rt (tb, S2) ⟨?_, hf2⟩ rfl (fun _ h => h.ent fun _ j => ⟨⟨j.2.2.1, j.2.1, j.1, j.2.2.2.1, j.2.2.2.2.1, trivial⟩, j.2.2.2.2.2.2.2.2.2.2.2.2⟩)
    dsimp only
    rw [hS2]
    unfold ofS
    rw [← hl2]
    simp [TS.pu]
end
end
end Go.Proofs.YtimemehaccgmmaaGreatDoor
namespace Go.Proofs.YtimemehaccgmmaaGreatDoor
open Go.RowKit
set_option maxRecDepth 100000
set_option linter.unusedSimpArgs false
set_option linter.unusedVariables false
noncomputable section
section
variable {P : Program} {n : Fr} {ops : Array Oper} {s : List KI} {L L' L0 : Env} {C C' : World → Prop} {Q : Exit → Act → World → Prop} {J : List (World → Prop)} {H H0 : List RC} {D : List Vq} {E E' E0 : List Nat} {t : Nat}
/-- The states after one step that is ready. -/
def nxS (ok : Nat → Bool) : List (Cn × Nat) → List (List (Cn × Nat))
  | [] => []
  | (c, k) :: r => (match k with | 0 => (if ok c.b then [(c, 1) :: r] else []) | 1 => (if ok c.a then [(c, 2) :: r] else []) | _ => []) ++ (nxS ok r).map ((c, k) :: ·)
theorem nxS_0 {ok : Nat → Bool} {c : Cn} {r : List (Cn × Nat)} (h : ok c.b = true) : ∀ l : List (Cn × Nat), l ++ (c, 1) :: r ∈ nxS ok (l ++ (c, 0) :: r)
  | [] => by simp [nxS, h]
  | (c', k) :: l => List.mem_append_right _ (List.mem_map.2 ⟨_, nxS_0 h l, rfl⟩)
theorem nxS_1 {ok : Nat → Bool} {c : Cn} {r : List (Cn × Nat)} (h : ok c.a = true) : ∀ l : List (Cn × Nat), l ++ (c, 2) :: r ∈ nxS ok (l ++ (c, 1) :: r)
  | [] => by simp [nxS, h]
  | (c', k) :: l => List.mem_append_right _ (List.mem_map.2 ⟨_, nxS_1 h l, rfl⟩)
/-- Chains whose appends are ordered: only what may come about is looked at. -/
theorem parV (vld : List (Cn × Nat) → Bool) (stp : List (Cn × Nat) → Bool) (chs : List Cn) (hok : ∀ c ∈ chs, CnOk P n ops t D J L0 c) (hnd : (chs.flatMap fun c => [c.d1, c.d2]).Nodup) (hL0 : ∀ d ∈ chs.flatMap (fun c => [c.d1, c.d2]), look L0 d = none)
    (hsh : (allP chs).all (fun r => !vld r || (stp r || (!(NNs r).isEmpty && chkP ops D E0 r))) = true) (hv : (allP chs).all (fun r => !vld r || (nxS (rdy ops D (EEs E0 r)) r).all vld) = true) (hD : ∀ H w, Ctx J (H ++ H0) w → ∀ q ∈ D, Fw q.F w)
    (k : ∀ cs : List (Cn × Pg), cs.map Prod.fst = chs → vld (sh2 cs) = true → stp (sh2 cs) = true → DS P n ops t s D (EEs E0 (sh2 cs)) (LLc L0 cs) (Ctx J (HHc H0 cs)) Q) :
    ∀ (m : Nat) (cs : List (Cn × Pg)), cs.map Prod.fst = chs → vld (sh2 cs) = true → (cs.map fun x => 2 - shp x.2).sum ≤ m → DS P n ops t s D (EEs E0 (sh2 cs)) (LLc L0 cs) (Ctx J (HHc H0 cs)) Q := by
  intro m
  induction m with
  | zero =>
    intro cs hcs hvl hm
    have hch := List.all_eq_true.1 hsh _ (hcs ▸ sh2_mem cs)
    have hvn := List.all_eq_true.1 hv _ (hcs ▸ sh2_mem cs)
    rw [hvl, Bool.not_true, Bool.false_or] at hch hvn
    rw [Bool.or_eq_true, Bool.and_eq_true, Bool.not_eq_true'] at hch
    rcases hch with hch | ⟨hch, -⟩
    · exact k cs hcs hvl hch
    · exfalso
      have h0 : NNs (sh2 cs) = [] := by
        apply List.eq_nil_iff_forall_not_mem.2
        intro e he
        obtain ⟨y, hy, hey⟩ := List.mem_flatMap.1 he
        obtain ⟨⟨c, pg⟩, hx', rfl⟩ := List.mem_map.1 hy
        have := sum_mem (f := fun x : Cn × Pg => 2 - shp x.2) hx'
        have h2 : shp pg ≤ 2 := by cases pg <;> simp [shp]
        have h3 : shp pg = 2 := by dsimp only at this; omega
        obtain ⟨b, q, rfl⟩ := shp2 h3
        simp [nxC, shp] at hey
      rw [h0] at hch; cases hch
  | succ m ih =>
    intro cs hcs hvl hm
    have hch := List.all_eq_true.1 hsh _ (hcs ▸ sh2_mem cs)
    have hvn := List.all_eq_true.1 hv _ (hcs ▸ sh2_mem cs)
    rw [hvl, Bool.not_true, Bool.false_or] at hch hvn
    rw [Bool.or_eq_true, Bool.and_eq_true, Bool.not_eq_true'] at hch
    rcases hch with hch | ⟨hne1, hch⟩
    · exact k cs hcs hvl hch
    · have hne0 : NNs (sh2 cs) ≠ [] := fun h => by rw [h] at hne1; cases hne1
      unfold chkP at hch
      rw [show (NNs (sh2 cs)).isEmpty = false by cases h : NNs (sh2 cs) with | nil => exact absurd h hne0 | cons a l => rfl, Bool.false_or, Bool.and_eq_true, Bool.and_eq_true] at hch
      obtain ⟨hch1, hch3, hch2⟩ := hch
      refine dEs ((NNs (sh2 cs)).filter (rdy ops D (EEs E0 (sh2 cs)))) (fun h0 => by rw [h0] at hch3; cases hch3) hch1 fun e he => ?_
      · obtain ⟨he, hdp⟩ := List.mem_filter.1 he
        have hin := List.all_eq_true.1 hch2 e he
        rw [Bool.not_eq_true'] at hin
        have hrd := hdp
        unfold rdy at hdp
        obtain ⟨y, hy, hey⟩ := List.mem_flatMap.1 he
        obtain ⟨⟨c, pg⟩, hx', rfl⟩ := List.mem_map.1 hy
        dsimp only at hey
        obtain ⟨l, r, rfl⟩ := List.append_of_mem hx'
        have hc := hok c (by rw [← hcs]; simp)
        have hks : ∀ j, j ∈ ((l ++ (c, pg) :: r).flatMap (fun x => bnC x.1 x.2)).map Prod.fst → look L0 j = none := fun j hj => hL0 j (hcs ▸ key_mem hj)
        have hnl : c.d1 ∉ (l.flatMap (fun x => bnC x.1 x.2)).map Prod.fst ∧ c.d2 ∉ (l.flatMap (fun x => bnC x.1 x.2)).map Prod.fst := by
          rw [← hcs, List.map_append, List.map_cons, List.flatMap_append, List.flatMap_cons] at hnd
          have h3 := (List.nodup_append.1 hnd).2.2
          exact ⟨fun hh => h3 _ (key_mem hh) _ (by simp) rfl, fun hh => h3 _ (key_mem hh) _ (by simp) rfl⟩
        have hLsub : ∀ j u, look L0 j = some u → look (LLc L0 (l ++ (c, pg) :: r)) j = some u := by
          intro j u hj
          unfold LLc
          rw [look_app]
          have : look ((l ++ (c, pg) :: r).flatMap (fun x => bnC x.1 x.2)) j = none := look_key fun hh => by rw [hks j hh] at hj; cases hj
          rw [this]; exact hj
        have hDF : ∀ cs' w, Ctx J (HHc H0 cs') w → ∀ q ∈ D, Fw q.F w := fun cs' w h => hD _ w h
        cases pg with
        | t b q => simp [nxC, shp] at hey
        | z =>
          obtain rfl : e = c.b := by simpa [nxC, shp] using hey
          obtain ⟨o, ho, hbt, hd, hdn, hgd, hsel, hos⟩ := hc.ob
          rw [ho] at hdp
          refine ⟨o, ho, hbt, hin, by rw [hd]; exact hdn, by unfold gOk; rw [hgd], hsel, hdp, Nat, c.v1, fun _ => True, fun b => Ctx J (HHc H0 (l ++ (c, .o b) :: r)), ?_, fun b _ w h => allF_all (hDF _ w h), fun b _ => ?_⟩
          · refine ((hos ((l.flatMap (fun x => rsC x.1 x.2)) ++ (r.flatMap (fun x => rsC x.1 x.2) ++ H0))).ext hLsub).imp (fun w h => h.perm ?_) (fun b w h => h.perm ?_)
            · rw [HHc_mid]; exact List.perm_middle
            · rw [HHc_mid]; exact List.perm_append_comm_assoc [c.u1 b, c.r0] _ _
          · refine dsw (fun j => ?_) (fun e => ?_) (fun w h => h) (ih (l ++ (c, .o b) :: r) (by simpa using hcs) (List.all_eq_true.1 hvn _ (by have := nxS_0 (r := sh2 r) hrd (sh2 l); simpa [sh2, shp] using this)) ?_)
            · rw [hd, LLc_mid, LLc_mid]
              exact look_mid hnl.1 j
            · rw [List.mem_cons, EEs_mid, EEs_mid]
              simp only [edC, shp, List.not_mem_nil, false_or, List.mem_singleton]
            · simp only [List.map_append, List.map_cons, List.sum_append, List.sum_cons, shp] at hm ⊢; omega
        | o b =>
          obtain rfl : e = c.a := by simpa [nxC, shp] using hey
          obtain ⟨o, ho, hbt, hd, hdn, hgd, hsel, hos⟩ := hc.oa
          rw [ho] at hdp
          refine ⟨o, ho, hbt, hin, by rw [hd]; exact hdn, by unfold gOk; rw [hgd], hsel, hdp, Option Addr × Nat, c.v2, fun _ => True, fun q => Ctx J (HHc H0 (l ++ (c, .t b q) :: r)), ?_, fun b _ w h => allF_all (hDF _ w h), fun q _ => ?_⟩
          · refine ((hos b ((l.flatMap (fun x => rsC x.1 x.2)) ++ (r.flatMap (fun x => rsC x.1 x.2) ++ H0))).ext fun j u hj => ?_).imp (fun w h => h.perm ?_) (fun q w h => h.perm ?_)
            · rw [look_cons] at hj
              split at hj
              · rename_i e1; subst e1
                rw [LLc_mid]
                have := look_mid (B := r.flatMap (fun x => bnC x.1 x.2) ++ L0) (v := c.v1 b) hnl.1 c.d1
                rw [look_cons, if_pos rfl] at this
                exact this.symm.trans hj
              · exact hLsub j u hj
            · rw [HHc_mid]; exact List.perm_append_comm_assoc _ [c.u1 b, c.r0] _
            · rw [HHc_mid]; exact List.perm_middle.symm
          · refine dsw (fun j => ?_) (fun e => ?_) (fun w h => h) (ih (l ++ (c, .t b q) :: r) (by simpa using hcs) (List.all_eq_true.1 hvn _ (by have := nxS_1 (r := sh2 r) hrd (sh2 l); simpa [sh2, shp] using this)) ?_)
            · rw [hd, LLc_mid, LLc_mid]
              exact look_mid hnl.2 j
            · rw [List.mem_cons, EEs_mid, EEs_mid]
              simp only [edC, shp, List.mem_cons, List.not_mem_nil, or_false, or_assoc]
            · simp only [List.map_append, List.map_cons, List.sum_append, List.sum_cons, shp] at hm ⊢; omega
theorem nns_all {cs : List (Cn × Pg)} (h : (NNs (sh2 cs)).isEmpty = true) : ∀ x ∈ cs, shp x.2 = 2 := fun x hx => by
  have h0 : NNs (sh2 cs) = [] := by simpa using h
  have h1 : nxC x.1 (shp x.2) = [] := by
    apply List.eq_nil_iff_forall_not_mem.2
    intro e he
    have : e ∈ NNs (sh2 cs) := List.mem_flatMap.2 ⟨(x.1, shp x.2), List.mem_map.2 ⟨x, hx, rfl⟩, he⟩
    rw [h0] at this; cases this
  obtain ⟨c, pg⟩ := x
  cases pg <;> simp [shp, nxC] at h1 ⊢
/-- The same, with a plain operation z that may come early. -/
theorem parZV (vld : List (Cn × Nat) → Bool) (z d : Nat) {v : Value} {o : Oper} (chs : List Cn) (hok : ∀ c ∈ chs, CnOk P n ops t D J L0 c) (hnd : (chs.flatMap fun c => [c.d1, c.d2]).Nodup) (hL0 : ∀ d ∈ chs.flatMap (fun c => [c.d1, c.d2]), look L0 d = none)
    (hz1 : ops[z]? = some o) (hz2 : Nat.blt z t = true) (hz3 : o.dst = some d) (hz4 : Nat.blt d n.1 = true) (hz5 : o.guard = none) (hz6 : selB o.op = false) (hz7 : ∀ L, (∀ j u, look L0 j = some u → look L j = some u) → pv P o.op L = some v) (hz8 : d ∉ chs.flatMap fun c => [c.d1, c.d2]) (hz9 : look L0 d = none)
    (hsh : (allP chs).all (fun r => !vld r || ((rdy ops D (EEs E0 r) z && !inV D (EEs E0 r) z) || (!(NNs r).isEmpty && chkP ops D E0 r))) = true) (hv : (allP chs).all (fun r => !vld r || (nxS (rdy ops D (EEs E0 r)) r).all vld) = true) (hsh2 : (allP chs).all (fun r => !vld r || ((NNs r).isEmpty || (!(NNs r).isEmpty && chkP ops (⟨z, v, none⟩ :: D) E0 r))) = true) (hv2 : (allP chs).all (fun r => !vld r || (nxS (rdy ops (⟨z, v, none⟩ :: D) (EEs E0 r)) r).all vld) = true) (hD : ∀ H w, Ctx J (H ++ H0) w → ∀ q ∈ D, Fw q.F w)
    (k : ∀ cs : List (Cn × Pg), cs.map Prod.fst = chs → (∀ x ∈ cs, shp x.2 = 2) → DS P n ops t s (⟨z, v, none⟩ :: D) (EEs E0 (sh2 cs)) (LLc ((d, v) :: L0) cs) (Ctx J (HHc H0 cs)) Q) (m : Nat) (cs : List (Cn × Pg)) (hcs : cs.map Prod.fst = chs) (hvl : vld (sh2 cs) = true) (hm : (cs.map fun x => 2 - shp x.2).sum ≤ m) : DS P n ops t s D (EEs E0 (sh2 cs)) (LLc L0 cs) (Ctx J (HHc H0 cs)) Q := by
  refine parV vld (fun r => rdy ops D (EEs E0 r) z && !inV D (EEs E0 r) z) chs hok hnd hL0 hsh hv hD (fun cs hcs hvl hst => ?_) m cs hcs hvl hm
  simp only [Bool.and_eq_true, Bool.not_eq_true', rdy, hz1] at hst
  have hks : ∀ j, j ∈ (cs.flatMap (fun x => bnC x.1 x.2)).map Prod.fst → look L0 j = none := fun j hj => hL0 j (hcs ▸ key_mem hj)
  have hLsub : ∀ j u, look L0 j = some u → look (LLc L0 cs) j = some u := by
    intro j u hj
    unfold LLc
    rw [look_app]
    have : look (cs.flatMap (fun x => bnC x.1 x.2)) j = none := look_key fun hh => by rw [hks j hh] at hj; cases hj
    rw [this]; exact hj
  have hq : OQ P o (LLc L0 cs) none v := ⟨hz6, fun ρ w hρ _ => pv_sound (fun h => hρ _ _ h) (hz7 _ hLsub) w⟩
  refine dQ none hz1 hz2 hz3 hz4 hst.1 hst.2 (fun a ha w hw => .inl ⟨gOk_at (by unfold gOk; rw [hz5]) ha, hq.at ha hw⟩) (fun _ _ => trivial) ?_
  refine dsw (fun j => LLc_z (hcs ▸ hz8) j) (fun e => Iff.rfl) (fun w h => h) ?_
  refine parV vld (fun r => (NNs r).isEmpty) chs (fun c hc => ?_) hnd (fun d' hd' => ?_) hsh2 hv2 (fun H w h q hq => ?_) (fun cs hcs _ hst => k cs hcs (nns_all hst)) _ cs hcs hvl (Nat.le_refl _)
  · obtain ⟨h1, h2⟩ := hok c hc
    have hx1 : ∀ j u, look L0 j = some u → look ((d, v) :: L0) j = some u := fun j u hj => by
      rw [look_cons]; split
      · rename_i e; subst e; rw [hz9] at hj; cases hj
      · exact hj
    have hx2 : ∀ b j u, look ((c.d1, c.v1 b) :: L0) j = some u → look ((c.d1, c.v1 b) :: (d, v) :: L0) j = some u := fun b j u hj => by
      rw [look_cons] at hj ⊢; split
      · rename_i e; rw [if_pos e] at hj; exact hj
      · rename_i e; rw [if_neg e] at hj; exact hx1 j u hj
    obtain ⟨o1, p1, p2, p3, p4, p5, p6, p7⟩ := h1
    obtain ⟨o2, q1, q2, q3, q4, q5, q6, q7⟩ := h2
    exact ⟨⟨o1, p1, p2, p3, p4, p5, p6, fun H => (p7 H).ext hx1⟩, ⟨o2, q1, q2, q3, q4, q5, q6, fun b H => (q7 b H).ext (hx2 b)⟩⟩
  · rw [look_cons, if_neg (fun e : d = d' => hz8 (by rw [e]; exact hd'))]; exact hL0 d' hd'
  · rcases List.mem_cons.1 hq with rfl | hq
    · exact trivial
    · exact hD H w h q hq
section
variable {α β γ : Type} {f : α → List Value} {g : β → List Value} {h : γ → List Value} {sz sz2 sz3 : Nat} {ad ad2 ad3 : Option Addr} {cap cap2 cap3 : Nat} {xs : List α} {ys : List β} {zs : List γ} {e e2 e3 : TypeId}
/-- Three. -/
theorem par3v (vld : List (Cn × Nat) → Bool) (z d : Nat) (b1 a1 b2 a2 b3 a3 : Nat) (y : α) (u : β) (r : γ) {d1 d1' d2 d2' d3 d3' : Nat} {te te2 te3 : TypeId} {vs vs2 vs3 : List Value} {v : Value} {o : Oper}
    (k : ∀ (q1 q2 q3 : Option Addr × Nat) (x1 x2 x3 : Nat), DS P n ops t s (⟨z, v, none⟩ :: D) (a1 :: b1 :: a2 :: b2 :: a3 :: b3 :: E0) ((d1', .slice q1.1 (xs ++ [y]).length q1.2) :: (d1, .slice (some ⟨x1, 0, none⟩) 1 1) :: (d2', .slice q2.1 (ys ++ [u]).length q2.2) :: (d2, .slice (some ⟨x2, 0, none⟩) 1 1) :: (d3', .slice q3.1 (zs ++ [r]).length q3.2) :: (d3, .slice (some ⟨x3, 0, none⟩) 1 1) :: (d, v) :: L0) (Ctx J (sl f sz e q1.1 q1.2 (xs ++ [y]) :: sl g sz2 e2 q2.1 q2.2 (ys ++ [u]) :: sl h sz3 e3 q3.1 q3.2 (zs ++ [r]) :: H0)) Q)
    (h1 : CnOk P n ops t D J L0 (apC f sz e ad cap xs y b1 a1 d1 d1' te vs)) (h2 : CnOk P n ops t D J L0 (apC g sz2 e2 ad2 cap2 ys u b2 a2 d2 d2' te2 vs2)) (h3 : CnOk P n ops t D J L0 (apC h sz3 e3 ad3 cap3 zs r b3 a3 d3 d3' te3 vs3))
    (hz1 : ops[z]? = some o := by rfl) (hz2 : Nat.blt z t = true := by rfl) (hz3 : o.dst = some d := by rfl) (hz4 : Nat.blt d n.1 = true := by rfl) (hz5 : o.guard = none := by rfl) (hz6 : selB o.op = false := by rfl) (hz7 : ∀ L, (∀ j u, look L0 j = some u → look L j = some u) → pv P o.op L = some v) (hz8 : d ∉ [d1, d1', d2, d2', d3, d3'] := by decide) (hz9 : look L0 d = none := by rfl)
    (hnd : [d1, d1', d2, d2', d3, d3'].Nodup := by decide) (hl : ∀ d ∈ [d1, d1', d2, d2', d3, d3'], look L0 d = none := by intro d hd; simp only [List.mem_cons, List.not_mem_nil, or_false] at hd; rcases hd with rfl | rfl | rfl | rfl | rfl | rfl <;> rfl)
    (hsh : (allP [apC f sz e ad cap xs y b1 a1 d1 d1' te vs, apC g sz2 e2 ad2 cap2 ys u b2 a2 d2 d2' te2 vs2, apC h sz3 e3 ad3 cap3 zs r b3 a3 d3 d3' te3 vs3]).all (fun r => !vld r || ((rdy ops D (EEs E0 r) z && !inV D (EEs E0 r) z) || (!(NNs r).isEmpty && chkP ops D E0 r))) = true := by rfl) (hv : (allP [apC f sz e ad cap xs y b1 a1 d1 d1' te vs, apC g sz2 e2 ad2 cap2 ys u b2 a2 d2 d2' te2 vs2, apC h sz3 e3 ad3 cap3 zs r b3 a3 d3 d3' te3 vs3]).all (fun r => !vld r || (nxS (rdy ops D (EEs E0 r)) r).all vld) = true := by rfl)
    (hsh2 : (allP [apC f sz e ad cap xs y b1 a1 d1 d1' te vs, apC g sz2 e2 ad2 cap2 ys u b2 a2 d2 d2' te2 vs2, apC h sz3 e3 ad3 cap3 zs r b3 a3 d3 d3' te3 vs3]).all (fun r => !vld r || ((NNs r).isEmpty || (!(NNs r).isEmpty && chkP ops (⟨z, v, none⟩ :: D) E0 r))) = true := by rfl) (hv2 : (allP [apC f sz e ad cap xs y b1 a1 d1 d1' te vs, apC g sz2 e2 ad2 cap2 ys u b2 a2 d2 d2' te2 vs2, apC h sz3 e3 ad3 cap3 zs r b3 a3 d3 d3' te3 vs3]).all (fun r => !vld r || (nxS (rdy ops (⟨z, v, none⟩ :: D) (EEs E0 r)) r).all vld) = true := by rfl) (hv0 : vld [(apC f sz e ad cap xs y b1 a1 d1 d1' te vs, 0), (apC g sz2 e2 ad2 cap2 ys u b2 a2 d2 d2' te2 vs2, 0), (apC h sz3 e3 ad3 cap3 zs r b3 a3 d3 d3' te3 vs3, 0)] = true := by rfl)
    (hD : ∀ w, allJ J w → allH H0 w → allD D w := by intro w j h; repeat' (first | exact trivial | exact h.1 | exact h.2.1 | exact h.2.2.1 | exact h.2.2.2.1 | exact h.2.2.2.2.1 | exact h.2.2.2.2.2.1 | exact j.1 | exact j.2.1 | exact j.2.2.1 | exact j.2.2.2.1 | exact j.2.2.2.2.1 | refine And.intro ?_ ?_)) : DS P n ops t s D E0 L0 (Ctx J (sl f sz e ad cap xs :: sl g sz2 e2 ad2 cap2 ys :: sl h sz3 e3 ad3 cap3 zs :: H0)) Q := by
  refine parZV vld (H0 := H0) z d [apC f sz e ad cap xs y b1 a1 d1 d1' te vs, apC g sz2 e2 ad2 cap2 ys u b2 a2 d2 d2' te2 vs2, apC h sz3 e3 ad3 cap3 zs r b3 a3 d3 d3' te3 vs3] (fun c hc => ?_) hnd hl hz1 hz2 hz3 hz4 hz5 hz6 hz7 hz8 hz9 hsh hv hsh2 hv2 (hDs hD) (fun cs hcs hall => ?_) 6 [(_, .z), (_, .z), (_, .z)] rfl hv0 (by simp [shp])
  · simp only [List.mem_cons, List.not_mem_nil, or_false] at hc
    rcases hc with rfl | rfl | rfl
    · exact h1
    · exact h2
    · exact h3
  · match cs, hcs, hall with
    | [(c1, p1), (c2, p2), (c3, p3)], hcs, hall =>
      simp only [List.map_cons, List.map_nil, List.cons.injEq, and_true] at hcs
      obtain ⟨rfl, rfl, rfl⟩ := hcs
      obtain ⟨x1, q1, rfl⟩ := shp2 (hall _ (List.mem_cons_self ..))
      obtain ⟨x2, q2, rfl⟩ := shp2 (hall _ (List.mem_cons_of_mem _ (List.mem_cons_self ..)))
      obtain ⟨x3, q3, rfl⟩ := shp2 (hall _ (List.mem_cons_of_mem _ (List.mem_cons_of_mem _ (List.mem_cons_self ..))))
      exact k q1 q2 q3 x1 x2 x3
end
end
end
end Go.Proofs.YtimemehaccgmmaaGreatDoor
