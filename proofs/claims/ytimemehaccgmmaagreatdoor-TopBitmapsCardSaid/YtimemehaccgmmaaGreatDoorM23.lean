/-
  Parts of the walks and their plain laws (R37 R38 S1 P1). No condition.
-/
import Derived.Test.YtimemehaccgmmaaGreatDoorM22
import Derived.Test.YtimemehaccgmmaaGreatDoorM14
import Derived.Test.YtimemehaccgmmaaGreatDoorM01
namespace Go.Proofs.YtimemehaccgmmaaGreatDoor
open Go.RowKit
set_option maxRecDepth 100000
set_option linter.unusedVariables false
set_option linter.unusedSimpArgs false
noncomputable section
/-- Ids of rows: each one is some row's. -/
structure IdOk (ids : List Nat) (m : Nat) : Prop where
  bn : ids.length ≤ 60
  bm : m ≤ 60
  lt : ∀ x ∈ ids, x < m
  all : ∀ id < m, id ∈ ids
def ivP (ids : List Nat) (m : Nat) : List (Nat → Bool) := (List.range m).map (pI ids)
def rgP (ids : List Nat) (m : Nat) : List (Nat → Bool) := (List.range m).map fun k => pL ids (k + 1)
section
variable {ids : List Nat} {m k : Nat}
theorem sum_add {α : Type} {f g : α → Nat} : ∀ {l : List α}, (l.map fun x => f x + g x).sum = (l.map f).sum + (l.map g).sum
  | [] => rfl
  | x :: l => by simp only [List.map_cons, List.sum_cons, sum_add (l := l)]; omega
theorem sum_one (x : Nat) : ∀ m, ((List.range m).map fun id => if x = id then 1 else 0).sum = if x < m then 1 else 0
  | 0 => by simp
  | m + 1 => by
    rw [List.range_succ, List.map_append, List.sum_append, sum_one x m]
    simp only [List.map_cons, List.map_nil, List.sum_cons, List.sum_nil]
    split <;> split <;> (try split) <;> omega
theorem pI_sum (hlt : ∀ x ∈ ids, x < m) : ∀ k, k ≤ ids.length → ((List.range m).map fun id => (fl (pI ids id) k).length).sum = k
  | 0, _ => by
    have : ∀ l : List Nat, (l.map fun id => (fl (pI ids id) 0).length).sum = 0 := fun l => by induction l with
      | nil => rfl
      | cons a l ih => simp only [List.map_cons, List.sum_cons, ih]; rfl
    exact this _
  | k + 1, h => by
    have hk : k < ids.length := by omega
    have e : (fun id => (fl (pI ids id) (k + 1)).length) = fun id => (fl (pI ids id) k).length + if ids[k] = id then 1 else 0 := by
      funext id
      by_cases e : ids[k] = id
      · rw [pI_t hk e, if_pos e]; simp
      · rw [pI_f hk e, if_neg e]; rfl
    rw [e, sum_add, pI_sum hlt k (by omega), sum_one, if_pos (hlt _ (List.getElem_mem hk))]
theorem IdOk.iv (h : IdOk ids m) : POk (ivP ids m) := ⟨by simpa [ivP] using h.bm, fun p hp => by
  obtain ⟨id, hid, rfl⟩ := List.mem_map.1 hp
  exact ⟨pI_60 h.bn, pI_ne h.bn (h.all id (List.mem_range.1 hid))⟩⟩
theorem IdOk.rg (h : IdOk ids m) : POk (rgP ids m) := ⟨by simpa [rgP] using h.bm, fun p hp => by
  obtain ⟨id, hid, rfl⟩ := List.mem_map.1 hp
  exact ⟨pL_60 h.bn, pL_ne h.bn (h.all id (List.mem_range.1 hid))⟩⟩
theorem IdOk.lns (h : IdOk ids m) : lns (ivP ids m) = ids.length := by
  have := pI_sum h.lt ids.length (Nat.le_refl _)
  unfold YtimemehaccgmmaaGreatDoor.lns ivP
  rw [List.map_map]
  rw [show ((fun p => (fl p 64).length) ∘ pI ids) = fun id => (fl (pI ids id) ids.length).length from funext fun id => by simp [pI_end h.bn]]
  exact this
theorem IdOk.unp (h : IdOk ids m) : unp (ivP ids m) (ivP ids m).length = fun i => decide (i < ids.length) := by
  funext i
  unfold YtimemehaccgmmaaGreatDoor.unp ivP
  rw [List.take_length, Bool.eq_iff_iff, List.any_eq_true, decide_eq_true_iff]
  constructor
  · rintro ⟨p, hp, hi⟩
    obtain ⟨id, hid, rfl⟩ := List.mem_map.1 hp
    by_cases hc : i < ids.length
    · exact hc
    · simp [pI, List.getElem?_eq_none (Nat.le_of_not_lt hc)] at hi
  · intro hi
    exact ⟨pI ids ids[i], List.mem_map.2 ⟨_, List.mem_range.2 (h.lt _ (List.getElem_mem hi)), rfl⟩, by simp [pI, hi]⟩
theorem rgP_at (hk : k < (rgP ids m).length) : (rgP ids m)[k] = pL ids (k + 1) := by simp [rgP]
theorem pB_rg (hk : k ≤ m) : pB (rgP ids m) k = pL ids k := by
  cases k with
  | zero => rw [pL0]; rfl
  | succ k => rw [pB_succ (by simp [rgP]; omega), rgP_at]
theorem IdOk.nest (h : IdOk ids m) : ∀ k (hk : k < (rgP ids m).length), ∀ i, pB (rgP ids m) k i = true → (rgP ids m)[k] i = true := fun k hk i hi => by
  have hk' : k < m := by simpa [rgP] using hk
  rw [pB_rg (by omega)] at hi
  rw [rgP_at, pL_succ]; simp [hi]
theorem IdOk.upto (h : IdOk ids m) : pB (rgP ids m) (rgP ids m).length = fun i => decide (i < ids.length) := by
  rw [show (rgP ids m).length = m by simp [rgP], pB_rg (Nat.le_refl _)]
  funext i
  unfold pL
  by_cases hi : i < ids.length
  · rw [List.getElem?_eq_getElem hi]
    simp [hi, h.lt _ (List.getElem_mem hi)]
  · rw [List.getElem?_eq_none (by omega)]; simp [hi]
end
/-- Where each id's rows end, of rows that rise. -/
def sE (ids : List Nat) : Nat → List Int
  | 0 => []
  | k + 1 => if (sE ids k).length = (ids[k]?).getD 0 then sE ids k ++ [(k : Int) + 1] else (sE ids k).set ((ids[k]?).getD 0) ((k : Int) + 1)
/-- Rows that rise. -/
structure UpOk (ids : List Nat) (m : Nat) : Prop extends IdOk ids m where
  up : ∀ i j (hi : i < j) (hj : j < ids.length), ids[i] ≤ ids[j]
section
variable {ids : List Nat} {m k : Nat}
theorem UpOk.step (h : UpOk ids m) : ∀ k (hk : k < ids.length), ((sE ids k).length = ids[k] ∨ (sE ids k).length = ids[k] + 1) ∧ (sE ids (k + 1)).length = ids[k] + 1
  | 0, hk => by
    have h0 : ids[0] = 0 := by
      obtain ⟨j, hj, e⟩ := List.getElem_of_mem (h.all 0 (by have := h.lt _ (List.getElem_mem hk); omega))
      rcases Nat.eq_zero_or_pos j with rfl | h1
      · exact e
      · have := h.up 0 j h1 hj; omega
    simp [sE, h0, hk]
  | k + 1, hk => by
    obtain ⟨-, e⟩ := UpOk.step h k (by omega)
    have hup := h.up k (k + 1) (by omega) hk
    have hle : ids[k + 1] ≤ ids[k] + 1 := by
      refine Nat.le_of_not_lt fun hc => ?_
      have hm := h.lt _ (List.getElem_mem hk)
      obtain ⟨j, hj, e2⟩ := List.getElem_of_mem (h.all (ids[k] + 1) (by omega))
      rcases Nat.lt_trichotomy j k with h1 | h1 | h1
      · have := h.up j k h1 (by omega); omega
      · subst h1; omega
      · rcases Nat.lt_or_eq_of_le (show k + 1 ≤ j by omega) with h2 | h2
        · have := h.up (k + 1) j h2 hj; omega
        · subst h2; omega
    have e3 : (sE ids (k + 1)).length = ids[k + 1] ∨ (sE ids (k + 1)).length = ids[k + 1] + 1 := by omega
    refine ⟨e3, ?_⟩
    rw [sE]
    simp only [List.getElem?_eq_getElem hk, Option.getD_some]
    split
    · rw [List.length_append]; simp; omega
    · rw [List.length_set]; omega
theorem UpOk.len (h : UpOk ids m) : (sE ids ids.length).length = m := by
  rcases Nat.eq_zero_or_pos ids.length with h0 | h0
  · have : ids = [] := List.eq_nil_of_length_eq_zero h0
    subst this
    rcases Nat.eq_zero_or_pos m with h1 | h1
    · rw [h1]; rfl
    · have := h.all 0 h1; simp at this
  · have e := (h.step (ids.length - 1) (by omega)).2
    rw [show ids.length - 1 + 1 = ids.length by omega] at e
    rw [e]
    have hm := h.lt _ (List.getElem_mem (show ids.length - 1 < ids.length by omega))
    obtain ⟨j, hj, e2⟩ := List.getElem_of_mem (h.all (m - 1) (by omega))
    rcases Nat.lt_or_eq_of_le (show j ≤ ids.length - 1 by omega) with h2 | h2
    · have := h.up j (ids.length - 1) h2 (by omega); omega
    · have : ids[j] = ids[ids.length - 1] := by congr 1
      omega
/-- What stands ahead of the k-th. -/
def lst (L : List Int) : Nat → Int
  | 0 => 0
  | k + 1 => (L[k]?).getD 0
theorem UpOk.rise (h : UpOk ids m) : ∀ k, k ≤ ids.length → (∀ j (hj : j < (sE ids k).length), lst (sE ids k) j < (sE ids k)[j] ∧ (sE ids k)[j] ≤ k) ∧ lst (sE ids k) (sE ids k).length = k
  | 0, _ => ⟨fun j hj => absurd hj (by simp [sE]), rfl⟩
  | k + 1, hk => by
    obtain ⟨h1, h2⟩ := UpOk.rise h k (by omega)
    have hs' := (h.step k (by omega)).1
    rw [sE]
    simp only [List.getElem?_eq_getElem (show k < ids.length by omega), Option.getD_some]
    split
    · rename_i e
      refine ⟨fun j hj => ?_, ?_⟩
      · rcases Nat.lt_or_eq_of_le (show j ≤ (sE ids k).length by simpa [Nat.lt_succ_iff] using hj) with h3 | h3
        · have := h1 j h3
          rw [List.getElem_append_left h3]
          have e2 : lst (sE ids k ++ [(k : Int) + 1]) j = lst (sE ids k) j := by
            cases j with
            | zero => rfl
            | succ j => simp only [lst]; rw [List.getElem?_append_left (by omega)]
          rw [e2]; omega
        · subst h3
          have e2 : lst (sE ids k ++ [(k : Int) + 1]) (sE ids k).length = lst (sE ids k) (sE ids k).length := by
            cases e3 : (sE ids k).length with
            | zero => rfl
            | succ j => simp only [lst]; rw [List.getElem?_append_left (by omega)]
          rw [e2, h2]; simp; omega
      · rw [List.length_append]; simp [lst]
    · rename_i e
      have hL : (sE ids k).length = ids[k] + 1 := by omega
      refine ⟨fun j hj => ?_, ?_⟩
      · rw [List.length_set] at hj
        have h3 := h1 j hj
        have e2 : lst ((sE ids k).set ids[k] ((k : Int) + 1)) j = lst (sE ids k) j := by
          cases j with
          | zero => rfl
          | succ j => simp only [lst]; rw [List.getElem?_set_ne (by omega)]
        rw [e2, List.getElem_set]
        split
        · omega
        · omega
      · rw [List.length_set, hL]
        simp only [lst]
        rw [List.getElem?_set_self (by omega)]; simp
end
end
end Go.Proofs.YtimemehaccgmmaaGreatDoor
namespace Go.Proofs.YtimemehaccgmmaaGreatDoor
open Go.RowKit
set_option maxRecDepth 100000
set_option linter.unusedVariables false
set_option linter.unusedSimpArgs false
noncomputable section
def SrF (b : Nat) (q : Q2) (L : List Int) : List (World → Prop) := [(pt b 261 [.slice q.1 L.length q.2]).A, Rs fi 1 q.1 q.2 L]
def srB (L : List Int) : List Int := L.flatMap (le 4)
/-- Ends that rise. -/
structure EOk (L : List Int) (r : Nat) : Prop where
  bl : L.length ≤ 60
  br : r ≤ 60
  up : ∀ j (hj : j < L.length), lst L j < L[j] ∧ L[j] ≤ r
  la : lst L L.length = r
theorem UpOk.ends {ids : List Nat} {m : Nat} (h : UpOk ids m) : EOk (sE ids ids.length) ids.length := by
  have := h.rise ids.length (Nat.le_refl _)
  exact ⟨by rw [h.len]; exact h.bm, h.bn, this.1, this.2⟩
theorem EOk.pos {L : List Int} {r : Nat} (h : EOk L r) : ∀ j (hj : j < L.length), 0 ≤ L[j] ∧ L[j] ≤ r
  | 0, hj => by have := h.up 0 hj; simp only [lst] at this; omega
  | j + 1, hj => by
    have h1 := EOk.pos h j (by omega)
    have := h.up (j + 1) hj
    simp only [lst, List.getElem?_eq_getElem (show j < L.length by omega), Option.getD_some] at this
    omega
section
variable {J : List (World → Prop)} {H : List RC} {ad : Option Addr} {cap m b r : Nat} {q : Q2} {xs L : List Int} {ids : List Nat}
theorem srB_len : (srB L).length = 4 * L.length := by
  unfold srB
  induction L with
  | nil => rfl
  | cons a l ih => simp only [List.flatMap_cons, List.length_append, ih, le_len, List.length_cons]; omega
theorem srB_B8 : B8 (srB L) := fun y hy => by
  obtain ⟨p, hp, h⟩ := List.mem_flatMap.1 hy
  exact le_B8 _ _ y h
theorem srB_succ {k : Nat} (h : k < L.length) : srB (L.take (k + 1)) = srB (L.take k) ++ le 4 L[k] := by
  unfold srB
  rw [← List.take_append_getElem h, List.flatMap_append]; simp
theorem srB_split {k : Nat} (h : k < L.length) : srB L = srB (L.take k) ++ (le 4 L[k] ++ srB (L.drop (k + 1))) := by
  unfold srB
  conv => lhs; rw [← List.take_append_drop k L, List.drop_eq_getElem_cons h]
  rw [List.flatMap_append, List.flatMap_cons]
set_option maxHeartbeats 4000000 in
theorem cSrOf (h : UpOk ids m) (hJ : Ent J (Rs fj 1 ad cap ids) := by exact jA) :
    Tr TP 79 [.slice ad ids.length cap, .int .i64 m] (Ctx J H) (fun x : Nat × Q2 => .tuple #[pb x.1, .int .i64 0]) (fun _ => True) (fun x => Ctx (Bn (SrF x.1 x.2 (sE ids ids.length)) :: J) H) := by
  have hn := h.bn
  have hm := h.bm
  refine en0 Tryz.func79 rfl rfl rfl (addJ hJ (go ?_))
  refine scp (go ?_)
  intro b
  refine nwS fi 1 3 none ?_
  refine lp (X := Nat × Q2) (fun x => x.1 ≤ ids.length) (fun (k, q) => [(1, .int .i64 m), (6, pb b), (22, .slice ad ids.length cap), (23, .int .i64 ids.length), (24, .int .i64 k)])
    (fun (k, q) => Ctx (Rs fj 1 ad cap ids :: J) (sl fi 1 3 q.1 q.2 (sE ids k) :: pt b 261 [.slice q.1 (sE ids k).length q.2] :: H)) (fun x => ids.length - x.1) (0, none, 0) (by simp) rfl (fun _ h => h) fun ⟨k, q⟩ hk => ?_
  dsimp only at hk
  refine go ?_
  refine ⟨fun h1 => ?_, fun h1 => ?_⟩
  · have hk1 : k < ids.length := by omega
    have hid := h.lt ids[k] (List.getElem_mem hk1)
    obtain ⟨h2, -⟩ := h.step k hk1
    have e1 : sE ids (k + 1) = if (sE ids k).length = ids[k] then sE ids k ++ [(k : Int) + 1] else (sE ids k).set ids[k] ((k : Int) + 1) := by rw [sE]; simp [hk1]
    rcases h2 with h2 | h2
    · rw [if_pos h2] at e1
      refine go ?_
      intro b2 q2
      rw [← e1]
      exact en (k + 1, q2) (by dsimp only; omega) rfl (fun _ h => h)
    · rw [if_neg (by omega)] at e1
      refine go ?_
      exact en (k + 1, q) (by dsimp only; omega) rfl (fun _ h => by dsimp only; rw [e1, List.length_set]; exact h)
  · obtain rfl : k = ids.length := by omega
    have hl := h.len
    refine fz (fzp (go ?_))
    exact rt (b, q) trivial rfl (fun _ h => h.ent fun _ j => ⟨⟨j.1, j.2.1, trivial⟩, j.2.2.2⟩)
theorem cSrLen (hJ : Ent J (Bn (SrF b q L)) := by exact jA) : Tr TP 149 [pb b] (Ctx J H) (fun _ : Unit => .int .i64 L.length) (fun _ => True) (fun _ => Ctx J H) := by
  refine en0 Tryz.func149 rfl rfl rfl (addS2 hJ ?_)
  refine go ?_
  exact rt () trivial rfl (fun _ h => h.ent fun _ j => j.2.2.2)
set_option maxHeartbeats 4000000 in
theorem cSrBytes (h : EOk L r) (hJ : Ent J (Bn (SrF b q L)) := by exact jA) : Tr TP 80 [pb b] (Ctx J H) (fun s : Q2 => .slice s.1 (srB L).length s.2) (fun _ => True) (fun s => Ctx (Rs f8 1 s.1 s.2 (srB L) :: J) H) := by
  have hb := h.bl
  have hbr := h.br
  refine en0 Tryz.func80 rfl rfl rfl (addS2 hJ ?_)
  refine go ?_
  refine cg (cSrLen (q := q) (L := L)) fun _ _ => ?_
  refine lp (X := Nat × Q2) (fun x => x.1 ≤ L.length) (fun (k, s) => [(0, pb b), (3, .slice s.1 (srB (L.take k)).length s.2), (6, .int .i64 L.length), (7, .int .i64 k)])
    (fun (k, s) => Ctx (Rs f8 1 s.1 s.2 (srB (L.take k)) :: (pt b 261 [.slice q.1 L.length q.2]).A :: Rs fi 1 q.1 q.2 L :: Bn (SrF b q L) :: J) H) (fun x => L.length - x.1) (0, none, 0) (by simp) rfl (fun _ h => h.ent fun _ j => ⟨rNl _ j, j⟩) fun ⟨k, s⟩ hk => ?_
  dsimp only at hk
  have hlk : (srB (L.take k)).length ≤ 400 := by rw [srB_len]; simp; omega
  refine go ?_
  refine ⟨fun h1 => ?_, fun h1 => ?_⟩
  · have hk1 : k < L.length := by omega
    have hp := h.pos k hk1
    refine go ?_
    refine cg (cA32 (xs := srB (L.take k)) (n := L[k])) fun s2 _ => ?_
    rw [← srB_succ hk1]
    refine fz (go ?_)
    exact en (k + 1, s2) (by dsimp only; omega) rfl (fun _ h => h.ent fun _ j => ⟨j.1, j.2.2⟩)
  · obtain rfl : k = L.length := by omega
    refine go ?_
    dsimp only
    rw [List.take_length]
    exact rt s trivial rfl (fun _ h => h.ent fun _ j => ⟨j.1, j.2.2.2.2⟩)
set_option maxHeartbeats 4000000 in
theorem cSrRead (h : EOk L r) (hxs : xs = srB L) (hJ : Ent J (Rs f8 1 ad cap xs) := by exact jA) :
    Tr TP 100 [.slice ad xs.length cap, .int .i64 r, .int .i64 L.length] (Ctx J H) (fun x : Nat × Q2 => .tuple #[pb x.1, .int .i64 0]) (fun _ => True) (fun x => Ctx (Bn (SrF x.1 x.2 L) :: J) H) := by
  have hb := h.bl
  have hbr := h.br
  have hlx : xs.length = 4 * L.length := by rw [hxs, srB_len]
  have h8 : B8 xs := hxs ▸ srB_B8
  refine en0 Tryz.func100 rfl rfl rfl (addJ hJ (go ?_))
  refine cg cNew fun ⟨c, s⟩ _ => ?_
  intro b1
  refine nwS fi 1 3 none ?_
  refine fr 2 rfl ?_
  refine lp (X := Nat × Q2) (fun x => x.1 ≤ L.length) (fun (k, q) => [(1, .int .i64 r), (8, pb c), (9, pb b1), (10, .int .i64 (lst L k)), (43, .int .i64 L.length), (44, .int .i64 k)])
    (fun (k, q) => Ctx (Rs f8 1 s.1 s.2 xs :: Rs f8 1 ad cap xs :: J) (rdr c s xs (4 * k) :: sl fi 1 3 q.1 q.2 (L.take k) :: pt b1 261 [.slice q.1 k q.2] :: H)) (fun x => L.length - x.1) (0, none, 0) (by simp) rfl (fun _ h => h) fun ⟨k, q⟩ hk => ?_
  dsimp only at hk
  refine go ?_
  refine ⟨fun h1 => ?_, fun h1 => ?_⟩
  · have hk1 : k < L.length := by omega
    have hp := h.pos k hk1
    have hu := h.up k hk1
    refine go ?_
    refine cg (gU32 (v := L[k]) (i := 4 * k) (sub_at _ _ _ (hxs.trans (srB_split hk1)) (by rw [srB_len]; simp; omega) (by rw [srB_len]; simp; omega)) (by omega) (by omega) (by omega) h8) fun _ _ => ?_
    intro b3 q2
    have e : L[k] = lst L (k + 1) := by simp [lst, hk1]
    rw [List.take_append_getElem hk1, show (L.take (k + 1)).length = k + 1 by simp; omega, show 4 * k + 4 = 4 * (k + 1) by omega, e]
    exact en (k + 1, q2) (by dsimp only; omega) rfl (fun _ h => h)
  · obtain rfl : k = L.length := by omega
    have hla := h.la
    refine fr 1 rfl (fz (fr 1 rfl (fzp (go ?_))))
    dsimp only
    rw [List.take_length]
    exact rt (b1, q) trivial rfl (fun _ h => h.rest.ent fun _ j => ⟨⟨j.1, j.2.1, trivial⟩, j.2.2.2.2⟩)
end
end
end Go.Proofs.YtimemehaccgmmaaGreatDoor
namespace Go.Proofs.YtimemehaccgmmaaGreatDoor
open Go.RowKit
set_option maxRecDepth 100000
set_option linter.unusedVariables false
set_option linter.unusedSimpArgs false
noncomputable section
/-- Less is known of the slots. -/
theorem wk {P : Program} {n : Fr} {s : List KI} {L : Env} {C : World → Prop} {Q : Exit → Act → World → Prop} (M : Env) (hc : M.map (fun p => look L p.1) = M.map (fun p => some p.2)) (k : HK P n s M C Q) : HK P n s L C Q :=
  fun a w ha hw => k a w (ha.cov hc) hw
/-- A configuration; where it lies. -/
structure Cfg where
  sort : Int
  inv : List Bool
  rng : List Bool
  split : List Int
  leaf : Int
structure CfA where
  i : Q2
  r : Q2
  s : Q2
def gC (g : Cfg) (a : CfA) : List Value := [.int .i64 g.sort, .slice a.i.1 g.inv.length a.i.2, .slice a.r.1 g.rng.length a.r.2, .slice a.s.1 g.split.length a.s.2, .int .i64 g.leaf]
abbrev gA' (g : Cfg) (a : CfA) : Value := .agg ⟨gC g a⟩
def gF' (g : Cfg) (a : CfA) : List (World → Prop) := [Rs fB 1 a.i.1 a.i.2 g.inv, Rs fB 1 a.r.1 a.r.2 g.rng, Rs fi 1 a.s.1 a.s.2 g.split]
def flT (l : List Col) (fl : List Bool) : Nat → Bool
  | 0 => true
  | i + 1 => flT l fl i && (match fl[i]? with | some true => dimB l i | _ => true)
def flagB (l : List Col) (fl : List Bool) : Bool := flT l fl fl.length && decide (fl.length = 0 ∨ fl.length = l.length)
def spT (l : List Col) (sp : List Int) : Nat → Bool
  | 0 => true
  | i + 1 => spT l sp i && (match sp[i]? with | some p => dimB l p && !decide (p ∈ sp.take i) | none => true)
def fitsB (l : List Col) (g : Cfg) : Bool :=
  mayL l && ((decide (g.sort = -1) || dimB l g.sort) && (flagB l g.inv && (flagB l g.rng && (spT l g.split g.split.length && decide (g.split.length ≤ 8 ∧ 1 ≤ g.leaf ∧ g.leaf ≤ 1000000)))))
theorem flT_no {l : List Col} {fl : List Bool} {k : Nat} (h : flT l fl (k + 1) = false) : ∀ m, k < m → flT l fl m = false
  | 0, hm => by omega
  | m + 1, hm => by
    rcases Nat.lt_or_eq_of_le (Nat.le_of_lt_succ hm) with h3 | h3
    · simp [flT, flT_no h m h3]
    · subst h3; exact h
theorem spT_no {l : List Col} {sp : List Int} {k : Nat} (h : spT l sp (k + 1) = false) : ∀ m, k < m → spT l sp m = false
  | 0, hm => by omega
  | m + 1, hm => by
    rcases Nat.lt_or_eq_of_le (Nat.le_of_lt_succ hm) with h3 | h3
    · simp [spT, spT_no h m h3]
    · subst h3; exact h
section
variable {J : List (World → Prop)} {H : List RC} {ad ad2 : Option Addr} {cap cap2 : Nat} {l : List Col} {xs : List Int} {p : Int}
theorem cIdxI (hb : xs.length ≤ 1000 := by omega) (hJ : Ent J (Rs fi 1 ad cap xs) := by exact jA) : Tr TP 200 [.slice ad xs.length cap, .int .i64 p] (Ctx J H) (fun r : Int => .int .i64 r) (fun r => 0 ≤ r ↔ p ∈ xs) (fun _ => Ctx J H) := by
  refine en0 Tryz.func200 rfl rfl rfl (addJ hJ (go ?_))
  refine lp (X := Nat) (fun k => k ≤ xs.length ∧ p ∉ xs.take k) (fun k => [(0, .slice ad xs.length cap), (1, .int .i64 p), (7, .int .i64 xs.length), (8, .int .i64 k)]) (fun k => Ctx (Rs fi 1 ad cap xs :: J) H) (fun k => xs.length - k) 0 (by simp) rfl (fun _ h => h) fun k ⟨hk, hall⟩ => ?_
  refine go ?_
  refine br (fun h1 => ?_) fun h1 => ?_
  · have hk1 : k < xs.length := by omega
    refine br (fun h2 => ?_) fun h2 => ?_
    · exact rt (k : Int) ⟨fun _ => h2 ▸ List.getElem_mem hk1, fun _ => by omega⟩ rfl (fun _ h => h.ent fun _ j => j.2)
    · exact en (k + 1) ⟨⟨by omega, fun hm => by
        rw [← List.take_append_getElem hk1] at hm
        rcases List.mem_append.1 hm with h3 | h3
        · exact hall h3
        · exact h2 (List.mem_singleton.1 h3)⟩, by omega⟩ rfl (fun _ h => h)
  · obtain rfl : k = xs.length := by omega
    rw [List.take_length] at hall
    exact rt (-1) ⟨fun h => by omega, fun h => absurd h hall⟩ rfl (fun _ h => h.ent fun _ j => j.2)
theorem cConI (hb : xs.length ≤ 1000 := by omega) (hJ : Ent J (Rs fi 1 ad cap xs) := by exact jA) : Tr TP 122 [.slice ad xs.length cap, .int .i64 p] (Ctx J H) (fun _ : Unit => .bool (decide (p ∈ xs))) (fun _ => True) (fun _ => Ctx J H) := by
  refine en0 Tryz.func122 rfl rfl rfl (go ?_)
  refine cg (cIdxI (hJ := hJ)) fun r hr => ?_
  exact rt () trivial (by rw [← decide_eq_decide.2 hr]; rfl) (fun _ h => h)
theorem cFlag {fl : List Bool} (hb : fl.length ≤ 1000 := by omega) (hb2 : l.length ≤ 1000 := by omega) (hJ : Ent J (Rs fC 2 ad cap l) := by exact jA) (hJ2 : Ent J (Rs fB 1 ad2 cap2 fl) := by exact jA) :
    Tr TP 121 [.slice ad l.length cap, .slice ad2 fl.length cap2] (Ctx J H) (fun _ : Unit => .bool (flagB l fl)) (fun _ => True) (fun _ => Ctx J H) := by
  refine en0 Tryz.func121 rfl rfl rfl (addJ hJ (addJ (fun w j => hJ2 w j.2) (go ?_)))
  refine lp (X := Nat) (fun k => k ≤ fl.length ∧ flT l fl k = true) (fun k => [(0, .slice ad l.length cap), (1, .slice ad2 fl.length cap2), (7, .slice ad2 fl.length cap2), (8, .int .i64 fl.length), (9, .int .i64 k)]) (fun k => Ctx (Rs fB 1 ad2 cap2 fl :: Rs fC 2 ad cap l :: J) H) (fun k => fl.length - k) 0 ⟨by simp, rfl⟩ rfl (fun _ h => h) fun k ⟨hk, hall⟩ => ?_
  refine go ?_
  refine ⟨fun h1 => ?_, fun h1 => ?_⟩
  · have hk1 : k < fl.length := by omega
    have e1 : flT l fl (k + 1) = (match fl[k]? with | some true => dimB l k | _ => true) := by rw [flT, hall, Bool.true_and]
    rw [List.getElem?_eq_getElem hk1] at e1
    refine go ?_
    refine ⟨fun hf => ?_, fun hf => ?_⟩
    · rw [hf] at e1
      refine go ?_
      refine ca cDim fun _ _ => ?_
      cases hd : dimB l k with
      | false =>
        refine go ?_
        rw [show flagB l fl = false by unfold flagB; rw [flT_no (e1.trans hd) _ hk1]; rfl]
        exact rt () trivial rfl (fun _ h => h.ent fun _ j => j.2.2)
      | true =>
        refine go ?_
        exact en (k + 1) ⟨⟨by omega, e1.trans hd⟩, by omega⟩ rfl (fun _ h => h)
    · rw [hf] at e1
      refine go ?_
      exact en (k + 1) ⟨⟨by omega, e1⟩, by omega⟩ rfl (fun _ h => h)
  · obtain rfl : k = fl.length := by omega
    rw [show flagB l fl = decide (fl.length = 0 ∨ fl.length = l.length) by unfold flagB; rw [hall]; rfl]
    by_cases h0 : fl.length = 0
    · refine go ?_
      rw [show decide (fl.length = 0 ∨ fl.length = l.length) = true by simp [h0]]
      exact rt () trivial rfl (fun _ h => h.ent fun _ j => j.2.2)
    · refine go ?_
      rw [show decide (fl.length = 0 ∨ fl.length = l.length) = decide ((fl.length : Int) = (l.length : Int)) from decide_eq_decide.2 (by omega)]
      exact rt () trivial rfl (fun _ h => h.ent fun _ j => j.2.2)
end
end
end Go.Proofs.YtimemehaccgmmaaGreatDoor
/- Plain laws of stable sorting. -/
namespace Go.Proofs.YtimemehaccgmmaaGreatDoor
set_option linter.unusedSimpArgs false
set_option linter.unusedVariables false
noncomputable section
/-- A strict weak order. -/
structure Swo {α : Type} (lt : α → α → Bool) : Prop where
  asym : ∀ x y, lt x y = true → lt y x = false
  neg : ∀ x y z, lt y x = false → lt z y = false → lt z x = false

section
variable {α : Type} {lt : α → α → Bool}
/-- What is alike with x. -/
def alk (lt : α → α → Bool) (x : α) (l : List α) : List α := l.filter fun y => !lt x y && !lt y x
/-- Rising. -/
def Rises (lt : α → α → Bool) (l : List α) : Prop := l.Pairwise fun x y => lt y x = false
/-- r is l, stably sorted. -/
def Stab (lt : α → α → Bool) (l r : List α) : Prop := Rises lt r ∧ ∀ x, alk lt x r = alk lt x l

theorem Swo.irr (h : Swo lt) (x : α) : lt x x = false := by
  cases hx : lt x x with
  | false => rfl
  | true => have := h.asym x x hx; rw [hx] at this; cases this
theorem Swo.lt_le (h : Swo lt) {x y z : α} (h1 : lt x y = true) (h2 : lt z y = false) : lt x z = true := by
  cases hx : lt x z with
  | true => rfl
  | false => have := h.neg y z x h2 hx; rw [h1] at this; cases this
theorem Swo.le_lt (h : Swo lt) {x y z : α} (h1 : lt y x = false) (h2 : lt y z = true) : lt x z = true := by
  cases hx : lt x z with
  | true => rfl
  | false => have := h.neg z x y hx h1; rw [h2] at this; cases this
theorem mem_alk {x y : α} {l : List α} : y ∈ alk lt x l ↔ y ∈ l ∧ lt x y = false ∧ lt y x = false := by
  simp [alk, List.mem_filter]
theorem alk_append (x : α) (l m : List α) : alk lt x (l ++ m) = alk lt x l ++ alk lt x m := by simp [alk]
theorem Swo.self (h : Swo lt) {x : α} {l : List α} (hx : x ∈ l) : x ∈ alk lt x l := mem_alk.2 ⟨hx, h.irr x, h.irr x⟩
theorem same_mem (h : Swo lt) {l r : List α} (hs : ∀ x, alk lt x r = alk lt x l) {x : α} (hx : x ∈ r) : x ∈ l := by
  have := h.self hx
  rw [hs x] at this
  exact (mem_alk.1 this).1
theorem Stab.mem (h : Swo lt) {l r : List α} (hs : Stab lt l r) {x : α} (hx : x ∈ r) : x ∈ l := same_mem h hs.2 hx

theorem rises_uniq (h : Swo lt) : ∀ (r1 r2 : List α), Rises lt r1 → Rises lt r2 → (∀ x, alk lt x r1 = alk lt x r2) → r1 = r2 := by
  intro r1
  induction r1 with
  | nil =>
    intro r2 _ _ hs
    cases r2 with
    | nil => rfl
    | cons b t =>
      have := h.self (show b ∈ b :: t from List.mem_cons_self)
      rw [← hs b] at this
      simp [alk] at this
  | cons a t1 ih =>
    intro r2 s1 s2 hs
    cases r2 with
    | nil =>
      have := h.self (show a ∈ a :: t1 from List.mem_cons_self)
      rw [hs a] at this
      simp [alk] at this
    | cons b t2 =>
      have ha : a ∈ b :: t2 := same_mem h hs List.mem_cons_self
      have hb : b ∈ a :: t1 := same_mem h (fun x => (hs x).symm) List.mem_cons_self
      have hab : lt a b = false := by
        rcases List.mem_cons.1 ha with rfl | ha
        · exact h.irr _
        · exact (List.pairwise_cons.1 s2).1 a ha
      have hba : lt b a = false := by
        rcases List.mem_cons.1 hb with rfl | hb
        · exact h.irr _
        · exact (List.pairwise_cons.1 s1).1 b hb
      have h1 := hs a
      have e1 : alk lt a (a :: t1) = a :: alk lt a t1 := by simp [alk, h.irr a]
      have e2 : alk lt a (b :: t2) = b :: alk lt a t2 := by simp [alk, hab, hba]
      rw [e1, e2] at h1
      injection h1 with h1 _
      subst h1
      congr 1
      refine ih t2 (List.pairwise_cons.1 s1).2 (List.pairwise_cons.1 s2).2 (fun x => ?_)
      have h2 := hs x
      simp only [alk, List.filter_cons] at h2 ⊢
      split at h2
      · injection h2
      · exact h2
theorem Stab.uniq (h : Swo lt) {l r1 r2 : List α} (h1 : Stab lt l r1) (h2 : Stab lt l r2) : r1 = r2 :=
  rises_uniq h r1 r2 h1.1 h2.1 (fun x => (h1.2 x).trans (h2.2 x).symm)
theorem Stab.nil : Stab lt [] [] := ⟨List.Pairwise.nil, fun _ => rfl⟩
theorem Stab.refl {l : List α} (h : Rises lt l) : Stab lt l l := ⟨h, fun _ => rfl⟩
theorem Stab.join {l1 l2 r1 r2 r : List α} (h1 : Stab lt l1 r1) (h2 : Stab lt l2 r2) (h : Stab lt (r1 ++ r2) r) : Stab lt (l1 ++ l2) r :=
  ⟨h.1, fun x => by rw [h.2 x, alk_append, alk_append, h1.2 x, h2.2 x]⟩
theorem Stab.one (x : α) : Stab lt [x] [x] := Stab.refl (List.pairwise_singleton _ _)

/-- The law of a merge that is cut in two. -/
theorem stab_cut (h : Swo lt) {A1 A2 B1 B2 R1 R2 : List α} (hA : Rises lt (A1 ++ A2)) (hB : Rises lt (B1 ++ B2)) (h12 : ∀ x ∈ A1, ∀ y ∈ B2, lt y x = false) (h21 : ∀ m ∈ B1, ∀ a ∈ A2, lt m a = true)
    (s1 : Stab lt (A1 ++ B1) R1) (s2 : Stab lt (A2 ++ B2) R2) : Stab lt ((A1 ++ A2) ++ (B1 ++ B2)) (R1 ++ R2) := by
  obtain ⟨hA1, hA2, hA12⟩ := List.pairwise_append.1 hA
  obtain ⟨hB1, hB2, hB12⟩ := List.pairwise_append.1 hB
  refine ⟨List.pairwise_append.2 ⟨s1.1, s2.1, fun x hx y hy => ?_⟩, fun x => ?_⟩
  · have hx := s1.mem h hx
    have hy := s2.mem h hy
    rcases List.mem_append.1 hx with hx | hx <;> rcases List.mem_append.1 hy with hy | hy
    · exact hA12 x hx y hy
    · exact h12 x hx y hy
    · exact h.asym _ _ (h21 x hx y hy)
    · exact hB12 x hx y hy
  · simp only [alk_append, s1.2 x, s2.2 x, List.append_assoc]
    congr 1
    rw [← List.append_assoc, ← List.append_assoc]
    congr 1
    -- one of the two is empty
    cases hb : alk lt x B1 with
    | nil => simp
    | cons m t =>
      cases ha : alk lt x A2 with
      | nil => simp
      | cons a t' =>
        exfalso
        obtain ⟨m1, m2, m3⟩ := mem_alk.1 (show m ∈ alk lt x B1 by rw [hb]; simp)
        obtain ⟨a1, a2, a3⟩ := mem_alk.1 (show a ∈ alk lt x A2 by rw [ha]; simp)
        have h3 := h21 m m1 a a1
        -- m like x like a
        have := h.neg a x m a2 m3
        rw [h3] at this; cases this
/-- One more is put among what rises. -/
theorem stab_put (h : Swo lt) {l L R : List α} {x : α} (hs : Stab lt l (L ++ R)) (hR : ∀ y ∈ R, lt x y = true) (hL : ∀ y ∈ L, lt x y = false) : Stab lt (l ++ [x]) (L ++ x :: R) := by
  have hr := hs.1
  obtain ⟨h1, h2, h3⟩ := List.pairwise_append.1 hr
  have := stab_cut h (A1 := L) (A2 := R) (B1 := [x]) (B2 := []) (R1 := L ++ [x]) (R2 := R) hr (List.pairwise_singleton _ _) (by simp) (by simpa using hR)
    ⟨List.pairwise_append.2 ⟨h1, List.pairwise_singleton _ _, by simpa using hL⟩, fun _ => rfl⟩ (by rw [List.append_nil]; exact Stab.refl h2)
  have e : L ++ x :: R = (L ++ [x]) ++ R := by simp
  rw [e]
  refine Stab.join hs (Stab.one x) ?_
  simpa using this
/-- Of what rises all lie behind what lies behind the first. -/
theorem first_all (h : Swo lt) {y : α} {a : α} {l : List α} (hr : Rises lt (a :: l)) (ha : lt y a = true) : ∀ z ∈ a :: l, lt y z = true := by
  intro z hz
  rcases List.mem_cons.1 hz with rfl | hz
  · exact ha
  · exact h.lt_le ha ((List.pairwise_cons.1 hr).1 z hz)
theorem first_le (h : Swo lt) {x : α} {a : α} {l : List α} (hr : Rises lt (a :: l)) (ha : lt a x = false) : ∀ z ∈ a :: l, lt z x = false := by
  intro z hz
  rcases List.mem_cons.1 hz with rfl | hz
  · exact ha
  · exact h.neg x a z ha ((List.pairwise_cons.1 hr).1 z hz)
theorem last_all (h : Swo lt) {x : α} {a : α} {l : List α} (hr : Rises lt (l ++ [a])) (ha : lt a x = true) : ∀ z ∈ l ++ [a], lt z x = true := by
  intro z hz
  rcases List.mem_append.1 hz with hz | hz
  · exact h.le_lt ((List.pairwise_append.1 hr).2.2 z hz a (by simp)) ha
  · simp at hz; subst hz; exact ha
theorem last_le (h : Swo lt) {y : α} {a : α} {l : List α} (hr : Rises lt (l ++ [a])) (ha : lt y a = false) : ∀ z ∈ l ++ [a], lt y z = false := by
  intro z hz
  rcases List.mem_append.1 hz with hz | hz
  · exact h.neg z a y ((List.pairwise_append.1 hr).2.2 z hz a (by simp)) ha
  · simp at hz; subst hz; exact ha

/-- Of the same length, and just a turn of it. -/
theorem stab_make (h : Swo lt) : ∀ l : List α, ∃ r, Stab lt l r ∧ r.Perm l := by
  intro l0
  rw [← List.reverse_reverse l0]
  induction l0.reverse with
  | nil => exact ⟨[], Stab.nil, List.Perm.refl _⟩
  | cons x t ih =>
    rw [List.reverse_cons]
    generalize t.reverse = l at *
    obtain ⟨r, hr, hp⟩ := ih
    -- where x goes
    have hcut : ∀ r : List α, Rises lt r → ∃ L R, r = L ++ R ∧ (∀ y ∈ R, lt x y = true) ∧ ∀ y ∈ L, lt x y = false := by
      intro r
      induction r with
      | nil => intro _; exact ⟨[], [], rfl, by simp, by simp⟩
      | cons a t iht =>
        intro hr
        cases ha : lt x a with
        | true => exact ⟨[], a :: t, rfl, first_all h hr ha, by simp⟩
        | false =>
          obtain ⟨L, R, rfl, h1, h2⟩ := iht (List.pairwise_cons.1 hr).2
          exact ⟨a :: L, R, rfl, h1, fun y hy => by
            rcases List.mem_cons.1 hy with rfl | hy
            · exact ha
            · exact h2 y hy⟩
    obtain ⟨L, R, rfl, h1, h2⟩ := hcut r hr.1
    refine ⟨L ++ x :: R, stab_put h hr h1 h2, ?_⟩
    exact List.perm_middle.trans ((List.perm_append_singleton x _).symm.trans (hp.append_right [x]))
theorem Stab.perm (h : Swo lt) {l r : List α} (hs : Stab lt l r) : r.Perm l := by
  obtain ⟨r', h1, h2⟩ := stab_make h l
  rw [hs.uniq h h1]; exact h2
theorem Stab.len (h : Swo lt) {l r : List α} (hs : Stab lt l r) : r.length = l.length := (hs.perm h).length_eq

/-- Sorted block by block; the last one may be short. -/
inductive Blk (lt : α → α → Bool) (n : Nat) : List α → List α → Prop
  | last {l r : List α} : l.length ≤ n → r.length = l.length → Stab lt l r → Blk lt n l r
  | cons {l1 r1 l2 r2 : List α} : l1.length = n → r1.length = n → Stab lt l1 r1 → Blk lt n l2 r2 → Blk lt n (l1 ++ l2) (r1 ++ r2)
/-- Whole blocks. -/
inductive Ful (lt : α → α → Bool) (n : Nat) : List α → List α → Prop
  | nil : Ful lt n [] []
  | snoc {l1 r1 l2 r2 : List α} : Ful lt n l1 r1 → l2.length = n → r2.length = n → Stab lt l2 r2 → Ful lt n (l1 ++ l2) (r1 ++ r2)
theorem Blk.len {n : Nat} {l r : List α} (h : Blk lt n l r) : r.length = l.length := by
  induction h with
  | last _ h _ => exact h
  | cons h1 h2 _ _ ih => simp [h1, h2, ih]
theorem Ful.len {n : Nat} {l r : List α} (h : Ful lt n l r) : r.length = l.length := by
  induction h with
  | nil => rfl
  | snoc _ h1 h2 _ ih => simp [h1, h2, ih]
theorem Ful.blk {n : Nat} {l r l' r' : List α} (h : Ful lt n l r) : Blk lt n l' r' → Blk lt n (l ++ l') (r ++ r') := by
  induction h generalizing l' r' with
  | nil => intro h; exact h
  | snoc _ h1 h2 h3 ih =>
    intro h
    rw [List.append_assoc, List.append_assoc]
    exact ih (Blk.cons h1 h2 h3 h)
theorem Blk.whole {n : Nat} {l r : List α} (h : Blk lt n l r) (hl : l.length ≤ n) : Stab lt l r := by
  cases h with
  | last _ _ h => exact h
  | cons h1 h2 h3 h4 =>
    have hl4 := h4.len
    simp at hl
    rename_i l1 r1 l2 r2
    have e1 : l2 = [] := List.eq_nil_of_length_eq_zero (by omega)
    have e2 : r2 = [] := List.eq_nil_of_length_eq_zero (by rw [hl4, e1]; rfl)
    subst e1; subst e2
    simpa using h3
/-- The first two blocks. -/
theorem Blk.two {n : Nat} (hn : 0 < n) {l r : List α} (h : Blk lt n l r) (hl : n < l.length) :
    ∃ l1 l2 l3 r1 r2 r3, l = l1 ++ (l2 ++ l3) ∧ r = r1 ++ (r2 ++ r3) ∧ l1.length = n ∧ r1.length = n ∧ Stab lt l1 r1 ∧ r2.length = l2.length ∧ Stab lt l2 r2 ∧ l2.length ≤ n ∧ 0 < l2.length ∧ Blk lt n l3 r3 ∧ (l2.length < n → l3 = [] ∧ r3 = []) := by
  cases h with
  | last h1 _ _ => omega
  | cons h1 h2 h3 h4 =>
    rename_i l1 r1 l2 r2
    simp at hl
    cases h4 with
    | last g1 g2 g3 => exact ⟨l1, l2, [], r1, r2, [], by simp, by simp, h1, h2, h3, g2, g3, g1, by omega, Blk.last (by simp) rfl Stab.nil, fun _ => ⟨rfl, rfl⟩⟩
    | cons g1 g2 g3 g4 =>
      rename_i l2' r2' l3 r3
      exact ⟨l1, l2', l3, r1, r2', r3, rfl, rfl, h1, h2, h3, by omega, g3, by omega, by omega, g4, fun h => by omega⟩
theorem Blk.short {n m : Nat} {l r : List α} (h : Blk lt n l r) (hl : l.length ≤ n) (hm : n ≤ m) : Blk lt m l r := Blk.last (by omega) h.len (h.whole hl)
end
section
variable {α : Type} {lt : α → α → Bool}
theorem split_at {α : Type} (l : List α) (k : Nat) (h : k < l.length) : ∃ l1 y l2, l = l1 ++ y :: l2 ∧ l1.length = k ∧ l[k]? = some y :=
  ⟨l.take k, l[k], l.drop (k + 1), by rw [← List.drop_eq_getElem_cons h, List.take_append_drop], by simp; omega, by simp [h]⟩
theorem upto_all (hs : Swo lt) {B : List α} {x : α} {d : Nat} (hd : d ≤ B.length) (hB : Rises lt B) (h : 0 < d → ∀ y, B[d - 1]? = some y → lt y x = true) : ∀ z ∈ B.take d, lt z x = true := by
  cases d with
  | zero => simp
  | succ d =>
    have hlt : d < B.length := by omega
    have e : B.take (d + 1) = B.take d ++ [B[d]] := List.take_succ_eq_append_getElem hlt
    have hr : Rises lt (B.take (d + 1)) := hB.sublist (List.take_sublist _ _)
    rw [e] at hr ⊢
    exact last_all hs hr (h (by omega) _ (by simp [hlt]))
theorem upto_le (hs : Swo lt) {A : List α} {y : α} {d : Nat} (hd : d ≤ A.length) (hA : Rises lt A) (h : 0 < d → ∀ x, A[d - 1]? = some x → lt y x = false) : ∀ z ∈ A.take d, lt y z = false := by
  cases d with
  | zero => simp
  | succ d =>
    have hlt : d < A.length := by omega
    have e : A.take (d + 1) = A.take d ++ [A[d]] := List.take_succ_eq_append_getElem hlt
    have hr : Rises lt (A.take (d + 1)) := hA.sublist (List.take_sublist _ _)
    rw [e] at hr ⊢
    exact last_le hs hr (h (by omega) _ (by simp [hlt]))
theorem from_le (hs : Swo lt) {B : List α} {x : α} {d : Nat} (hB : Rises lt B) (h : ∀ y, B[d]? = some y → lt y x = false) : ∀ z ∈ B.drop d, lt z x = false := by
  by_cases hlt : d < B.length
  · have e : B.drop d = B[d] :: B.drop (d + 1) := List.drop_eq_getElem_cons hlt
    have hr : Rises lt (B.drop d) := hB.sublist (List.drop_sublist _ _)
    rw [e] at hr ⊢
    exact first_le hs hr (h _ (by simp [hlt]))
  · rw [List.drop_of_length_le (by omega)]; simp
theorem from_all (hs : Swo lt) {A : List α} {y : α} {d : Nat} (hA : Rises lt A) (h : ∀ x, A[d]? = some x → lt y x = true) : ∀ z ∈ A.drop d, lt y z = true := by
  by_cases hlt : d < A.length
  · have e : A.drop d = A[d] :: A.drop (d + 1) := List.drop_eq_getElem_cons hlt
    have hr : Rises lt (A.drop d) := hA.sublist (List.drop_sublist _ _)
    rw [e] at hr ⊢
    exact first_all hs hr (h _ (by simp [hlt]))
  · rw [List.drop_of_length_le (by omega)]; simp
theorem left_law (hs : Swo lt) {B : List α} {x : α} {d : Nat} (hd : d ≤ B.length) (hB : Rises lt B) (h1 : 0 < d → ∀ y, B[d - 1]? = some y → lt y x = true) (h2 : ∀ y, B[d]? = some y → lt y x = false) :
    Stab lt ([x] ++ B) (B.take d ++ x :: B.drop d) := by
  have e := (List.take_append_drop d B).symm
  have hf := from_le hs hB h2
  have hr2 : Rises lt (B.drop d) := hB.sublist (List.drop_sublist _ _)
  have := stab_cut hs (A1 := []) (A2 := [x]) (B1 := B.take d) (B2 := B.drop d) (R1 := B.take d) (R2 := x :: B.drop d) (List.pairwise_singleton _ _) (by rw [← e]; exact hB) (by simp) (by simpa using upto_all hs hd hB h1)
    (Stab.refl (hB.sublist (List.take_sublist _ _))) (Stab.refl (List.pairwise_cons.2 ⟨hf, hr2⟩))
  rw [← e] at this
  simpa using this
theorem right_law (hs : Swo lt) {A : List α} {y : α} {d : Nat} (hd : d ≤ A.length) (hA : Rises lt A) (h1 : 0 < d → ∀ x, A[d - 1]? = some x → lt y x = false) (h2 : ∀ x, A[d]? = some x → lt y x = true) :
    Stab lt (A ++ [y]) (A.take d ++ y :: A.drop d) := by
  have e := (List.take_append_drop d A).symm
  refine stab_put hs ?_ (from_all hs hA h2) (upto_le hs hd hA h1)
  rw [← e]; exact Stab.refl hA
theorem cut_law (hs : Swo lt) {A B : List α} {d1 d2 : Nat} (hA : Rises lt A) (hB : Rises lt B) (h1 : d1 ≤ A.length) (h2 : d2 ≤ B.length) (H1 : 0 < d1 → ∀ x y, A[d1 - 1]? = some x → B[d2]? = some y → lt y x = false) (H2 : 0 < d2 → ∀ x y, A[d1]? = some x → B[d2 - 1]? = some y → lt y x = true) :
    (∀ x ∈ A.take d1, ∀ y ∈ B.drop d2, lt y x = false) ∧ ∀ m ∈ B.take d2, ∀ a ∈ A.drop d1, lt m a = true := by
  refine ⟨fun x hx => ?_, fun m hm => ?_⟩
  · have h0 : 0 < d1 := by
      rcases Nat.eq_zero_or_pos d1 with h | h
      · subst h; simp at hx
      · exact h
    refine from_le hs hB (fun y0 hy0 => ?_)
    exact upto_le hs h1 hA (fun _ x0 hx0 => H1 h0 x0 y0 hx0 hy0) x hx
  · have h0 : 0 < d2 := by
      rcases Nat.eq_zero_or_pos d2 with h | h
      · subst h; simp at hm
      · exact h
    refine from_all hs hA (fun a0 ha0 => ?_)
    exact upto_all hs h2 hB (fun _ m0 hm0 => H2 h0 a0 m0 ha0 hm0) m hm
theorem cut_len {α : Type} (l : List α) (k : Nat) (h : k ≤ l.length) : ∃ l1 l2, l = l1 ++ l2 ∧ l1.length = k := ⟨l.take k, l.drop k, (List.take_append_drop k l).symm, by simp; omega⟩

end
end
end Go.Proofs.YtimemehaccgmmaaGreatDoor
