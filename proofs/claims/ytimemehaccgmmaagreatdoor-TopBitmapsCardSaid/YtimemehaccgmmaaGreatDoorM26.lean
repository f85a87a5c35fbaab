/-
  Parts of the walks and their plain laws (S4 S5 S6 S7 S8). No condition.
-/
import Derived.Test.YtimemehaccgmmaaGreatDoorM25
import Derived.Test.YtimemehaccgmmaaGreatDoorM11
namespace Go.Proofs.YtimemehaccgmmaaGreatDoor
open Go.RowKit
set_option maxRecDepth 100000
set_option linter.unusedVariables false
set_option linter.unusedSimpArgs false
noncomputable section
def nrm' (g : Cfg) (n : Nat) : Cfg := ⟨g.sort, (List.range n).map (fun i : Nat => hasB g.inv (i : Int)), (List.range n).map (fun i : Nat => hasB g.rng (i : Int)), g.split, g.leaf⟩
section
variable {J : List (World → Prop)} {H : List RC} {ad ad2 : Option Addr} {cap cap2 b i : Nat} {q : Q2} {l : List Col} {g : Cfg} {a : CfA} {xs A B : List Int}
theorem gU8 {v : Int} (hv : sub xs i (i + 1) = [v]) (hi : i + 1 ≤ xs.length) (hb : xs.length ≤ 100000000) (h8 : B8 xs) (hJ : Ent J (Rs f8 1 q.1 q.2 xs) := by exact jA) :
    Tr TP 171 [pb b] (Ctx J (rdr b q xs i :: H)) (fun _ : Unit => .int .u8 v) (fun _ => True) (fun _ => Ctx J (rdr b q xs (i + 1) :: H)) := by
  have := cU8 (J := J) (H := H) (b := b) (q := q) (xs := xs) (i := i) hJ hi hb h8
  rw [hv, show un [v] = v by simp [un]] at this
  exact this
theorem flat_split' {α : Type} {g : α → List Int} {l : List α} {k : Nat} (h : k < l.length) : l.flatMap g = (l.take k).flatMap g ++ (g l[k] ++ (l.drop (k + 1)).flatMap g) := by
  conv => lhs; rw [← List.take_append_drop k l, List.drop_eq_getElem_cons h]
  rw [List.flatMap_append, List.flatMap_cons]
theorem len_cut {A X B : List Int} {n : Nat} (h : xs = A ++ (X ++ B)) (hn : n = A.length + X.length) : n ≤ xs.length := by
  rw [h, List.length_append, List.length_append]; omega
set_option maxHeartbeats 8000000 in
theorem cCols (ho : FitOk l g) (hxs : xs = le 2 l.length ++ (l.flatMap colB ++ B)) (h8 : B8 xs) (hb : xs.length ≤ 1000000) (hJ : Ent J (Rs f8 1 q.1 q.2 xs) := by exact jA) :
    Tr TP 166 [pb b] (Ctx J (rdr b q xs 0 :: H)) (fun u : Q2 => .tuple #[.slice u.1 l.length u.2, .bool true]) (fun _ => True) (fun u => Ctx (Rs fC 2 u.1 u.2 l :: J) (rdr b q xs (2 + (l.flatMap colB).length) :: H)) := by
  have hl := ho.len
  refine en0 Tryz.func166 rfl rfl rfl (addJ hJ (go ?_))
  refine cg (gU16 (v := l.length) (i := 0) (sub_at [] _ _ hxs rfl rfl) (by omega) (len_cut (A := []) (X := le 2 l.length) (B := l.flatMap colB ++ B) hxs (by simp)) (by omega) h8) fun _ _ => ?_
  refine nwS fC 2 154 none ?_
  refine fr 1 rfl ?_
  refine lp (X := Nat × Q2) (fun x => x.1 ≤ l.length) (fun (k, u) => [(0, pb b), (2, .slice u.1 k u.2), (12, .int .i64 l.length), (13, .int .i64 k)])
    (fun (k, u) => Ctx (Rs f8 1 q.1 q.2 xs :: J) (rdr b q xs (2 + ((l.take k).flatMap colB).length) :: sl fC 2 154 u.1 u.2 (l.take k) :: H)) (fun x => l.length - x.1) (0, none, 0) (by simp) rfl (fun _ h => h) fun ⟨k, u⟩ hk => ?_
  dsimp only at hk
  refine go ?_
  refine ⟨fun h1 => ?_, fun h1 => ?_⟩
  · have hk1 : k < l.length := by omega
    have hsz := ho.size _ (List.getElem_mem hk1)
    have hkd := ho.kind _ (List.getElem_mem hk1)
    have hP : xs = (le 2 l.length ++ (l.take k).flatMap colB) ++ ([l[k].k] ++ ([(l[k].s.size : Int)] ++ (sb l[k].s ++ ((l.drop (k + 1)).flatMap colB ++ B)))) := by
      rw [hxs, flat_split' hk1]; simp [colB]
    generalize eP : le 2 l.length ++ (l.take k).flatMap colB = P at hP
    have hPl : 2 + ((l.take k).flatMap colB).length = P.length := by rw [← eP, List.length_append, le_len]
    have hP2 : xs = (P ++ [l[k].k]) ++ ([(l[k].s.size : Int)] ++ (sb l[k].s ++ ((l.drop (k + 1)).flatMap colB ++ B))) := by rw [hP]; simp only [List.append_assoc]
    have hP3 : xs = (P ++ [l[k].k] ++ [(l[k].s.size : Int)]) ++ (sb l[k].s ++ ((l.drop (k + 1)).flatMap colB ++ B)) := by rw [hP2]; simp only [List.append_assoc]
    have hPn : 2 + ((l.take (k + 1)).flatMap colB).length = P.length + 1 + 1 + l[k].s.size := by
      rw [flat_take_succ hk1, List.length_append, ← Nat.add_assoc, hPl]; simp [colB, sb_len]; omega
    refine go ?_
    dsimp only
    rw [hPl]
    refine cg (gU8 (v := l[k].k) (i := P.length) (sub_at P _ _ hP rfl rfl) (len_cut hP rfl) (by omega) h8) fun _ _ => ?_
    refine cg (gU8 (v := (l[k].s.size : Int)) (i := P.length + 1) (sub_at (P ++ [l[k].k]) _ _ hP2 (by simp) (by simp)) (len_cut hP2 (by simp)) (by omega) h8) fun _ _ => ?_
    have hle := len_cut (n := P.length + 1 + 1 + l[k].s.size) hP3 (by simp [sb_len])
    refine cg (cBytes (i := P.length + 1 + 1) (m := l[k].s.size)) fun r _ => ?_
    intro b2
    rw [sub_at (P ++ [l[k].k] ++ [(l[k].s.size : Int)]) (sb l[k].s) _ hP3 (by simp) (by simp [sb_len]), str_sb]
    refine fr 3 rfl (fr 1 rfl ?_)
    refine ap1 (f := fC) l[k] fun u2 => ?_
    rw [List.take_append_getElem hk1, show (l.take (k + 1)).length = k + 1 by rw [List.length_take]; omega, ← hPn]
    refine fr 1 rfl (dr (fr 1 rfl (go ?_)))
    exact en (k + 1, u2) (by dsimp only; omega) rfl (fun _ h => h)
  · obtain rfl : k = l.length := by omega
    refine go ?_
    dsimp only
    rw [List.take_length]
    refine fr 1 rfl (fz ?_)
    exact rt u trivial rfl (fun _ h => h.ent fun _ j => ⟨j.1, j.2.2⟩)
theorem flB_cases (g : Cfg) (k : Nat) : flB g k = 0 ∧ hasB g.inv k = false ∧ hasB g.rng k = false ∨ flB g k = 1 ∧ hasB g.inv k = true ∧ hasB g.rng k = false ∨ flB g k = 2 ∧ hasB g.inv k = false ∧ hasB g.rng k = true ∨ flB g k = 3 ∧ hasB g.inv k = true ∧ hasB g.rng k = true := by
  unfold flB
  cases hasB g.inv k <;> cases hasB g.rng k <;> simp
theorem rng_split {γ : Type} {f : Nat → γ} {n k : Nat} (h : k < n) : (List.range n).map f = (List.range k).map f ++ ([f k] ++ ((List.range n).map f).drop (k + 1)) := by
  conv => lhs; rw [← List.take_append_drop k ((List.range n).map f), List.drop_eq_getElem_cons (by simpa using h)]
  rw [← List.map_take, List.take_range, Nat.min_eq_left (by omega)]
  simp
theorem rgS {γ : Type} {f : Nat → γ} {k : Nat} : (List.range (k + 1)).map f = (List.range k).map f ++ [f k] := by rw [List.range_succ]; simp
theorem flat2_len' {k : Nat} {sp : List Int} (h : k ≤ sp.length) : ((sp.take k).flatMap (le 2)).length = 2 * k := by
  have key : ∀ l : List Int, (l.flatMap (le 2)).length = 2 * l.length := fun l => by
    induction l with
    | nil => rfl
    | cons a l ih => simp only [List.flatMap_cons, List.length_append, ih, le_len, List.length_cons]; omega
  rw [key, List.length_take]; omega
theorem perm4 {α : Type} {a b c d : α} {l : List α} : (a :: b :: c :: d :: l).Perm (c :: d :: a :: b :: l) := List.perm_append_comm (l₁ := [a, b]) (l₂ := [c, d]) |>.append_right l
set_option maxHeartbeats 8000000 in
theorem cConf (ho : FitOk l g) (hxs : xs = A ++ (le 2 (g.sort + 1) ++ ((List.range l.length).map (flB g) ++ ([(g.split.length : Int)] ++ (g.split.flatMap (le 2) ++ (le 4 g.leaf ++ B)))))) (hi : i = A.length) (h8 : B8 xs) (hb : xs.length ≤ 1000000) (hJ : Ent J (Rs f8 1 q.1 q.2 xs) := by exact jA) :
    Tr TP 167 [pb b, .int .i64 l.length] (Ctx J (rdr b q xs i :: H)) (fun a : CfA => .tuple #[gA' (nrm' g l.length) a, .bool true]) (fun _ => True) (fun a => Ctx (Bn (gF' (nrm' g l.length) a) :: J) (rdr b q xs (i + 2 + l.length + 1 + 2 * g.split.length + 4) :: H)) := by
  have hl := ho.len
  have hso := ho.sortLt
  have hlf := ho.leaf
  have hbs := ho.bs
  refine en0 Tryz.func167 rfl rfl rfl (addJ hJ (go ?_))
  intro z
  refine frc 1 rfl ?_
  refine cg (gU16 (v := g.sort + 1) (i := i) (sub_at A _ _ hxs hi (by simp [hi])) (by omega) (len_cut hxs (by simp [hi])) (by omega) h8) fun _ _ => ?_
  rw [show g.sort + 1 - 1 = g.sort by omega]
  refine nwS fB 1 4 none (nwS fB 1 4 none ?_)
  refine fr 2 rfl (fr 3 rfl (fr 1 rfl ?_))
  rw [← List.append_assoc] at hxs
  generalize eC : A ++ le 2 (g.sort + 1) = C0 at hxs
  have hC : i + 2 = C0.length := by rw [← eC, List.length_append, le_len, hi]
  refine lp (X := Nat × Q2 × Q2) (fun x => x.1 ≤ l.length) (fun (k, u, v) => [(0, pb b), (1, .int .i64 l.length), (4, pb z), (19, .int .i64 l.length), (20, .int .i64 k)])
    (fun (k, u, v) => Ctx (Rs f8 1 q.1 q.2 xs :: J) (rdr b q xs (i + 2 + k) :: pt z 26 [.int .i64 g.sort, .slice u.1 ((List.range k).map (fun i : Nat => hasB g.inv (i : Int))).length u.2, .slice v.1 ((List.range k).map (fun i : Nat => hasB g.rng (i : Int))).length v.2, .slice none 0 0, .int .i64 0] :: sl fB 1 4 u.1 u.2 ((List.range k).map (fun i : Nat => hasB g.inv (i : Int))) :: sl fB 1 4 v.1 v.2 ((List.range k).map (fun i : Nat => hasB g.rng (i : Int))) :: H)) (fun x => l.length - x.1) (0, (none, 0), (none, 0)) (by simp) rfl (fun _ h => h) fun ⟨k, u, v⟩ hk => ?_
  dsimp only at hk
  refine go ?_
  refine ⟨fun h1 => ?_, fun h1 => ?_⟩
  · have hk1 : k < l.length := by omega
    obtain ⟨D, hD⟩ : ∃ D, (List.range l.length).map (flB g) = (List.range k).map (flB g) ++ ([flB g k] ++ D) := ⟨_, rng_split hk1⟩
    have hP := hxs
    rw [hD, List.append_assoc, List.append_assoc, ← List.append_assoc] at hP
    refine go ?_
    rcases flB_cases g k with ⟨e, e1, e2⟩ | ⟨e, e1, e2⟩ | ⟨e, e1, e2⟩ | ⟨e, e1, e2⟩
    all_goals rw [e] at hP
    · refine cg (gU8 (v := 0) (i := i + 2 + k) (sub_at _ _ _ hP (by simp [hC]) (by simp [hC])) (len_cut hP (by simp [hC])) (by omega) h8) fun _ _ => ?_
      refine frd 3 rfl (frd 3 rfl ?_)
      refine par2z (f := fB) (g := fB) 14 41 5 6 12 13 false false (fun q1 q2 x1 x2 => ?_) (mkCn rfl rfl rfl rfl rfl rfl rfl rfl rfl rfl rfl rfl rfl rfl rfl (fun _ => rfl) rfl rfl rfl rfl rfl rfl (by simp; omega)) (mkCn rfl rfl rfl rfl rfl rfl rfl rfl rfl rfl rfl rfl rfl rfl rfl (fun _ => rfl) rfl rfl rfl rfl rfl rfl (by simp; omega)) (hz7 := pvFa rfl rfl rfl)
      rw [show (List.range k).map (fun i : Nat => hasB g.inv (i : Int)) ++ [false] = (List.range (k + 1)).map (fun i : Nat => hasB g.inv (i : Int)) by rw [rgS, e1], show (List.range k).map (fun i : Nat => hasB g.rng (i : Int)) ++ [false] = (List.range (k + 1)).map (fun i : Nat => hasB g.rng (i : Int)) by rw [rgS, e2]]
      refine go ?_
      exact en (k + 1, q1, q2) (by dsimp only; omega) rfl (fun _ h => Ctx.perm h perm4)
    · refine cg (gU8 (v := 1) (i := i + 2 + k) (sub_at _ _ _ hP (by simp [hC]) (by simp [hC])) (len_cut hP (by simp [hC])) (by omega) h8) fun _ _ => ?_
      refine frd 3 rfl (frd 3 rfl ?_)
      refine par2z (f := fB) (g := fB) 14 41 5 6 12 13 true false (fun q1 q2 x1 x2 => ?_) (mkCn rfl rfl rfl rfl rfl rfl rfl rfl rfl rfl rfl rfl rfl rfl rfl (fun _ => rfl) rfl rfl rfl rfl rfl rfl (by simp; omega)) (mkCn rfl rfl rfl rfl rfl rfl rfl rfl rfl rfl rfl rfl rfl rfl rfl (fun _ => rfl) rfl rfl rfl rfl rfl rfl (by simp; omega)) (hz7 := pvFa rfl rfl rfl)
      rw [show (List.range k).map (fun i : Nat => hasB g.inv (i : Int)) ++ [true] = (List.range (k + 1)).map (fun i : Nat => hasB g.inv (i : Int)) by rw [rgS, e1], show (List.range k).map (fun i : Nat => hasB g.rng (i : Int)) ++ [false] = (List.range (k + 1)).map (fun i : Nat => hasB g.rng (i : Int)) by rw [rgS, e2]]
      refine go ?_
      exact en (k + 1, q1, q2) (by dsimp only; omega) rfl (fun _ h => Ctx.perm h perm4)
    · refine cg (gU8 (v := 2) (i := i + 2 + k) (sub_at _ _ _ hP (by simp [hC]) (by simp [hC])) (len_cut hP (by simp [hC])) (by omega) h8) fun _ _ => ?_
      refine frd 3 rfl (frd 3 rfl ?_)
      refine par2z (f := fB) (g := fB) 14 41 5 6 12 13 false true (fun q1 q2 x1 x2 => ?_) (mkCn rfl rfl rfl rfl rfl rfl rfl rfl rfl rfl rfl rfl rfl rfl rfl (fun _ => rfl) rfl rfl rfl rfl rfl rfl (by simp; omega)) (mkCn rfl rfl rfl rfl rfl rfl rfl rfl rfl rfl rfl rfl rfl rfl rfl (fun _ => rfl) rfl rfl rfl rfl rfl rfl (by simp; omega)) (hz7 := pvFa rfl rfl rfl)
      rw [show (List.range k).map (fun i : Nat => hasB g.inv (i : Int)) ++ [false] = (List.range (k + 1)).map (fun i : Nat => hasB g.inv (i : Int)) by rw [rgS, e1], show (List.range k).map (fun i : Nat => hasB g.rng (i : Int)) ++ [true] = (List.range (k + 1)).map (fun i : Nat => hasB g.rng (i : Int)) by rw [rgS, e2]]
      refine go ?_
      exact en (k + 1, q1, q2) (by dsimp only; omega) rfl (fun _ h => Ctx.perm h perm4)
    · refine cg (gU8 (v := 3) (i := i + 2 + k) (sub_at _ _ _ hP (by simp [hC]) (by simp [hC])) (len_cut hP (by simp [hC])) (by omega) h8) fun _ _ => ?_
      refine frd 3 rfl (frd 3 rfl ?_)
      refine par2z (f := fB) (g := fB) 14 41 5 6 12 13 true true (fun q1 q2 x1 x2 => ?_) (mkCn rfl rfl rfl rfl rfl rfl rfl rfl rfl rfl rfl rfl rfl rfl rfl (fun _ => rfl) rfl rfl rfl rfl rfl rfl (by simp; omega)) (mkCn rfl rfl rfl rfl rfl rfl rfl rfl rfl rfl rfl rfl rfl rfl rfl (fun _ => rfl) rfl rfl rfl rfl rfl rfl (by simp; omega)) (hz7 := pvFa rfl rfl rfl)
      rw [show (List.range k).map (fun i : Nat => hasB g.inv (i : Int)) ++ [true] = (List.range (k + 1)).map (fun i : Nat => hasB g.inv (i : Int)) by rw [rgS, e1], show (List.range k).map (fun i : Nat => hasB g.rng (i : Int)) ++ [true] = (List.range (k + 1)).map (fun i : Nat => hasB g.rng (i : Int)) by rw [rgS, e2]]
      refine go ?_
      exact en (k + 1, q1, q2) (by dsimp only; omega) rfl (fun _ h => Ctx.perm h perm4)
  obtain rfl : k = l.length := by omega
  refine go ?_
  dsimp only
  generalize eD : C0 ++ (List.range l.length).map (flB g) = D0
  rw [← List.append_assoc, eD] at hxs
  have hDl : i + 2 + l.length = D0.length := by rw [← eD, List.length_append]; simp [hC]
  refine cg (gU8 (v := (g.split.length : Int)) (i := i + 2 + l.length) (sub_at D0 _ _ hxs hDl (by simp [hDl])) (len_cut hxs (by simp [hDl])) (by omega) h8) fun _ _ => ?_
  refine fr 2 rfl (fz ?_)
  refine fr 2 rfl (fz ?_)
  refine nwS fi 1 3 none ?_
  refine fr 1 rfl ?_
  refine fr 2 rfl ?_
  refine fr 1 rfl ?_
  generalize eE : D0 ++ [(g.split.length : Int)] = E0
  rw [← List.append_assoc, eE] at hxs
  have hEl : i + 2 + l.length + 1 = E0.length := by rw [← eE, List.length_append]; simp [hDl]
  refine lp (X := Nat × Q2) (fun x => x.1 ≤ g.split.length) (fun (k, y) => [(0, pb b), (1, .int .i64 l.length), (4, pb z), (50, .int .i64 g.split.length), (51, .int .i64 k)])
    (fun (k, y) => Ctx (Rs fB 1 v.1 v.2 ((List.range l.length).map (fun i : Nat => hasB g.rng (i : Int))) :: Rs fB 1 u.1 u.2 ((List.range l.length).map (fun i : Nat => hasB g.inv (i : Int))) :: Rs f8 1 q.1 q.2 xs :: J) (rdr b q xs (i + 2 + l.length + 1 + 2 * k) :: pt z 26 [.int .i64 g.sort, .slice u.1 ((List.range l.length).map (fun i : Nat => hasB g.inv (i : Int))).length u.2, .slice v.1 ((List.range l.length).map (fun i : Nat => hasB g.rng (i : Int))).length v.2, .slice y.1 (g.split.take k).length y.2, .int .i64 0] :: sl fi 1 3 y.1 y.2 (g.split.take k) :: H)) (fun x => g.split.length - x.1) (0, (none, 0)) (by simp) rfl (fun _ h => h) fun ⟨k, y⟩ hk => ?_
  dsimp only at hk
  refine go ?_
  refine ⟨fun h1 => ?_, fun h1 => ?_⟩
  · have hk1 : k < g.split.length := by omega
    have hp := ho.splLt _ (List.getElem_mem hk1)
    have hP := hxs
    rw [flat_split' hk1, List.append_assoc, List.append_assoc, ← List.append_assoc] at hP
    have hkl : ((g.split.take k).flatMap (le 2)).length = 2 * k := flat2_len' (by omega)
    refine go ?_
    refine cg (gU16 (v := g.split[k]) (i := i + 2 + l.length + 1 + 2 * k) (sub_at _ _ _ hP (by rw [List.length_append]; omega) (by rw [List.length_append, le_len]; omega)) (by omega) (len_cut hP (by rw [List.length_append, le_len]; omega)) (by omega) h8) fun _ _ => ?_
    intro b3 y2
    rw [List.take_append_getElem hk1, show i + 2 + l.length + 1 + 2 * k + 2 = i + 2 + l.length + 1 + 2 * (k + 1) by omega]
    exact en (k + 1, y2) (by dsimp only; omega) rfl (fun _ h => h)
  obtain rfl : k = g.split.length := by omega
  refine go ?_
  dsimp only
  rw [← List.append_assoc] at hxs
  have hkl : (g.split.flatMap (le 2)).length = 2 * g.split.length := by
    have := flat2_len' (sp := g.split) (k := g.split.length) (Nat.le_refl _); rwa [List.take_length] at this
  refine cg (gU32 (v := g.leaf) (i := i + 2 + l.length + 1 + 2 * g.split.length) (sub_at _ _ _ hxs (by rw [List.length_append]; omega) (by rw [List.length_append, le_len]; omega)) (by omega) (len_cut hxs (by rw [List.length_append, le_len]; omega)) (by omega) h8) fun _ _ => ?_
  refine fr 2 rfl (fz ?_)
  rw [List.take_length]
  exact rv ⟨u, v, y⟩ trivial (fun _ h => (h.drp 1).ent fun _ j => ⟨⟨j.2.2.1, j.2.1, j.1, trivial⟩, j.2.2.2.2⟩)
end
end
end Go.Proofs.YtimemehaccgmmaaGreatDoor
namespace Go.Proofs.YtimemehaccgmmaaGreatDoor
open Go.RowKit
set_option maxRecDepth 100000
set_option linter.unusedVariables false
set_option linter.unusedSimpArgs false
noncomputable section
theorem flT_of {l : List Col} {fl : List Bool} : ∀ {k : Nat}, (∀ i : Nat, i < k → fl[i]? = some true → dimB l (i : Int) = true) → flT l fl k = true
  | 0, _ => rfl
  | k + 1, h => by
    rw [flT, flT_of fun i hi => h i (by omega), Bool.true_and]
    split
    · exact h k (by omega) (by assumption)
    · rfl
theorem hasB_at {fl : List Bool} {i : Nat} : hasB fl (i : Int) = (fl[i]?).getD false := by simp [hasB]
theorem flag_nrm {l : List Col} {fl : List Bool} (h : flagB l fl = true) : flagB l ((List.range l.length).map (fun i : Nat => hasB fl (i : Int))) = true := by
  unfold flagB at h ⊢
  simp only [Bool.and_eq_true, decide_eq_true_iff] at h ⊢
  refine ⟨flT_of fun i hi he => ?_, .inr (by simp)⟩
  rw [List.length_map, List.length_range] at hi
  rw [List.getElem?_map, List.getElem?_range hi, Option.map_some, Option.some.injEq, hasB_at] at he
  by_cases hl : i < fl.length
  · rw [List.getElem?_eq_getElem hl, Option.getD_some] at he
    exact flT_at h.1 i hl (by rw [List.getElem?_eq_getElem hl, he])
  · rw [List.getElem?_eq_none (by omega)] at he; cases he
theorem fits_nrm {l : List Col} {g : Cfg} (h : fitsB l g = true) : fitsB l (nrm' g l.length) = true := by
  have h' := h
  simp only [fitsB, Bool.and_eq_true] at h ⊢
  exact ⟨h.1, h.2.1, flag_nrm h.2.2.1, flag_nrm h.2.2.2.1, h.2.2.2.2⟩
theorem sok_nrm {l : List Col} {g : Cfg} (h : fitsB l g = true) : SOk l (nrm' g l.length) := by
  have ho := fit_ok h
  exact ⟨ho.len.2, by simp [nrm', ho.len.2], by simp [nrm', ho.len.2], by have := ho.bs; simp [nrm']; omega, fun c hc => by have := ho.size c hc; omega⟩
theorem colB_B8 {c : Col} (h : c.s.size ≤ 64 ∧ 1 ≤ c.k ∧ c.k ≤ 3) : B8 (colB c) := fun y hy => by
  simp only [colB, List.mem_append, List.mem_cons, List.not_mem_nil, or_false] at hy
  rcases hy with (rfl | rfl) | hy
  · omega
  · omega
  · exact sb_B8 _ y hy
theorem schB_B8 {l : List Col} {g : Cfg} (h : fitsB l g = true) : B8 (schB l g) := fun y hy => by
  have ho := fit_ok h
  simp only [schB, List.mem_append, List.mem_cons, List.not_mem_nil, or_false] at hy
  rcases hy with (((((hy | hy) | hy) | hy) | rfl) | hy) | hy
  · exact le_B8 _ _ y hy
  · obtain ⟨c, hc, hy⟩ := List.mem_flatMap.1 hy
    exact colB_B8 ⟨ho.size c hc, ho.kind c hc⟩ y hy
  · exact le_B8 _ _ y hy
  · obtain ⟨k, -, rfl⟩ := List.mem_map.1 hy
    rcases flB_cases g k with e | e | e | e <;> rw [e.1] <;> decide
  · have := ho.bs; omega
  · obtain ⟨c, hc, hy⟩ := List.mem_flatMap.1 hy
    exact le_B8 _ _ y hy
  · exact le_B8 _ _ y hy
theorem schB_len {l : List Col} {g : Cfg} (h : fitsB l g = true) : (schB l g).length ≤ 20000 := by
  have ho := fit_ok h
  have h1 := cols_len (l := l) (k := l.length) ho.size ho.len.2
  have h2 := flat2_len (sp := g.split) (k := g.split.length)
  rw [List.take_length] at h1 h2
  have := ho.len
  have := ho.bs
  simp only [schB, List.length_append, le_len, List.length_map, List.length_range, List.length_cons, List.length_nil]
  omega
section
variable {J : List (World → Prop)} {H : List RC} {ad ad2 : Option Addr} {cap cap2 b i : Nat} {q : Q2} {l : List Col} {g : Cfg} {a : CfA} {xs A B : List Int}
set_option maxHeartbeats 8000000 in
theorem cSchRead (hf : fitsB l g = true) (hxs : xs = schB l g) (hJ : Ent J (Rs f8 1 ad cap xs) := by exact jA) :
    Tr TP 90 [.slice ad xs.length cap] (Ctx J H) (fun x : Q2 × CfA => .tuple #[.slice x.1.1 l.length x.1.2, gA' (nrm' g l.length) x.2, .int .i64 0]) (fun _ => True) (fun x => Ctx (Bn (gF' (nrm' g l.length) x.2) :: Rs fC 2 x.1.1 x.1.2 l :: J) H) := by
  have ho := fit_ok hf
  have h8 : B8 xs := hxs ▸ schB_B8 hf
  have hlx : xs.length ≤ 20000 := hxs ▸ schB_len hf
  have e1 : xs = le 2 l.length ++ (l.flatMap colB ++ (le 2 (g.sort + 1) ++ ((List.range l.length).map (flB g) ++ ([(g.split.length : Int)] ++ (g.split.flatMap (le 2) ++ (le 4 g.leaf ++ [])))))) := by rw [hxs]; simp [schB]
  have e2 : xs = (le 2 l.length ++ l.flatMap colB) ++ (le 2 (g.sort + 1) ++ ((List.range l.length).map (flB g) ++ ([(g.split.length : Int)] ++ (g.split.flatMap (le 2) ++ (le 4 g.leaf ++ []))))) := by rw [e1]; simp only [List.append_assoc]
  have e3 : xs.length = 2 + (l.flatMap colB).length + 2 + l.length + 1 + 2 * g.split.length + 4 := by
    have := flat2_len' (sp := g.split) (k := g.split.length) (Nat.le_refl _)
    rw [List.take_length] at this
    rw [e1]; simp only [List.length_append, le_len, List.length_map, List.length_range, List.length_cons, List.length_nil, this]; omega
  refine en0 Tryz.func90 rfl rfl rfl (addJ hJ (go ?_))
  intro z
  refine cg (cNew (hb := by omega)) fun ⟨c, s⟩ _ => ?_
  refine cg (cCols ho e1 h8 (by omega)) fun u _ => ?_
  intro d
  refine frc 1 rfl ?_
  refine cg (cConf ho e2 (by simp) h8 (by omega)) fun w2 _ => ?_
  refine cg cBad fun _ _ => ?_
  refine ca (cLeft (by omega) (by omega)) fun _ _ => ?_
  rw [show (xs.length : Int) - ((2 + (l.flatMap colB).length + 2 + l.length + 1 + 2 * g.split.length + 4 : Nat) : Int) = 0 by omega]
  refine go ?_
  refine ca (cFitsB (sok_nrm hf)) fun _ _ => ?_
  rw [fits_nrm hf]
  refine go ?_
  exact rv (u, w2) trivial (fun _ h => (((show Ctx _ (_ :: _ :: _ :: H) _ from h).rest).rest).rest.ent fun _ j => ⟨j.1, j.2.1, j.2.2.2.2⟩)
end
end
end Go.Proofs.YtimemehaccgmmaaGreatDoor
namespace Go.Proofs.YtimemehaccgmmaaGreatDoor
open Go.RowKit
set_option maxRecDepth 100000
set_option linter.unusedVariables false
set_option linter.unusedSimpArgs false
noncomputable section
/-- A section: its name, where its bytes lie, its bytes. -/
structure Sec where
  n : ByteArray
  q : Q2
  b : List Int
def fSec (x : Sec) : List Value := [.string x.n, .slice x.q.1 x.b.length x.q.2]
instance : Lies fSec 2 := ⟨fun _ => rfl, fun x v h => by simp [fSec] at h; rcases h with rfl | rfl <;> rfl, by decide⟩
abbrev aSec (x : Sec) : Value := .agg #[.string x.n, .slice x.q.1 x.b.length x.q.2]
def sF8 (x : Sec) : World → Prop := Rs f8 1 x.q.1 x.q.2 x.b
def Sec.pl (x : Sec) : ByteArray × List Int := (x.n, x.b)
def findS (l : List Sec) (s : ByteArray) : Int := ixF (fun c => decide (c.n.toList = s.toList)) l
/-- Sections that may be. -/
structure SeOk (L : List (ByteArray × List Int)) : Prop where
  bl : L.length ≤ 200
  nm : ∀ x ∈ L, nameB 46 20 x.1 = true
  nd : (L.map (·.1.toList)).Nodup
  bb : ∀ x ∈ L, x.2.length ≤ 1000000 ∧ B8 x.2
def secB (x : ByteArray × List Int) : List Int := [(x.1.size : Int)] ++ sb x.1 ++ frame x.2
def secsB (L : List (ByteArray × List Int)) : List Int := [73, 83, 71, 76] ++ le 2 L.length ++ L.flatMap secB
theorem SeOk.sz {L : List (ByteArray × List Int)} (h : SeOk L) : ∀ x ∈ L, 1 ≤ x.1.size ∧ x.1.size ≤ 20 := fun x hx => by
  have := h.nm x hx
  simp only [nameB, Bool.and_eq_true, decide_eq_true_iff] at this
  exact this.2
theorem find_at {l : List Sec} (h : SeOk (l.map Sec.pl)) {i : Nat} (hi : i < l.length) : findS l l[i].n = i := by
  refine ixF_at hi (fun j _ hj => ?_) (by simp)
  have := List.pairwise_iff_getElem.1 h.nd j i (by simp; omega) (by simpa using hi) hj
  simpa [Sec.pl] using this
theorem find_no {l : List Sec} {s : ByteArray} (h : ∀ x ∈ l, x.n.toList ≠ s.toList) : findS l s = -1 := ixF_none fun x hx => by simpa using h x hx
section
variable {J : List (World → Prop)} {H : List RC} {ad : Option Addr} {cap i : Nat} {l : List Sec} {xs A B : List Int}
theorem ixS : IxT 161 fSec 2 aSec := fun hJ hcl hb => ixf hJ hcl hb
theorem cSFind1 {b : Nat} {c : Sec} {s : ByteArray} (hJ : Ent J (pt b 9 [.string s]).A := by exact jA) : Tr TP 162 [aSec c, pb b] (Ctx J H) (fun _ : Unit => .bool (decide (c.n.toList = s.toList))) (fun _ => True) (fun _ => Ctx J H) := by
  refine en0 Tryz.func162 rfl rfl rfl (addJ hJ (go ?_))
  intro p
  exact rt () trivial rfl (fun _ h => h.rest.ent fun _ j => j.2)
theorem cSFind {s : ByteArray} (hJ : Ent J (Rs fSec 2 ad cap l) := by exact jA) (hb : l.length ≤ 1000 := by omega) :
    Tr TP 88 [.slice ad l.length cap, .string s] (Ctx J H) (fun _ : Unit => .int .i64 (findS l s)) (fun _ => True) (fun _ => Ctx J H) := by
  refine en0 Tryz.func88 rfl rfl rfl (addJ hJ (go ?_))
  intro p
  refine fzpc ?_
  refine cg (ixS (pr := fun c => decide (c.n.toList = s.toList)) (cb := [pb p]) (hcl := fun J' hJ' x hx => cSFind1 (hJ := fun w j => je0 w (hJ' w j)))) fun _ _ => ?_
  exact rt () trivial rfl (fun _ h => h.ent fun _ j => j.2.2)
set_option maxHeartbeats 4000000 in
theorem cSMay (h : SeOk (l.map Sec.pl)) (hJ : Ent J (Rs fSec 2 ad cap l) := by exact jA) :
    Tr TP 85 [.slice ad l.length cap] (Ctx J H) (fun _ : Unit => .int .i64 0) (fun _ => True) (fun _ => Ctx J H) := by
  have hbl : l.length ≤ 200 := by simpa using h.bl
  refine en0 Tryz.func85 rfl rfl rfl (addJ hJ (go ?_))
  refine lp (X := Nat) (fun k => k ≤ l.length) (fun k => [(0, .slice ad l.length cap), (3, .int .i64 0), (6, .slice ad l.length cap), (7, .int .i64 l.length), (8, .int .i64 k)]) (fun k => Ctx (Rs fSec 2 ad cap l :: J) H) (fun k => l.length - k) 0 (by simp) rfl (fun _ h => h) fun k hk => ?_
  refine go ?_
  refine ⟨fun h1 => ?_, fun h1 => ?_⟩
  · have hk1 : k < l.length := by omega
    have hm : l[k].pl ∈ l.map Sec.pl := List.mem_map.2 ⟨_, List.getElem_mem hk1, rfl⟩
    have hsz := h.sz _ hm
    have hbb := h.bb _ hm
    have hnm := h.nm _ hm
    simp only [Sec.pl] at hsz hbb hnm
    refine go ?_
    intro b
    refine ca (cSecName (by omega)) fun _ _ => ?_
    rw [hnm]
    refine go ?_
    refine ca cSFind fun _ _ => ?_
    rw [find_at h hk1]
    refine go ?_
    exact en (k + 1) (by omega) rfl (fun _ h => h.rest)
  · obtain rfl : k = l.length := by omega
    refine go ?_
    exact rt () trivial rfl (fun _ h => h.ent fun _ j => j.2)
theorem cName {n : ByteArray} (hn : nameB 46 20 n = true) (hxs : xs = A ++ ([(n.size : Int)] ++ (sb n ++ B))) (hi : i = A.length) (hb : xs.length ≤ 100000000) (hJ : Ent J (Rs f8 1 ad cap xs) := by exact jA) :
    Tr TP 87 [.slice ad xs.length cap, .int .i64 i] (Ctx J H) (fun _ : Unit => .tuple #[.string n, .int .i64 ((i + 1 + n.size : Nat) : Int), .int .i64 0]) (fun _ => True) (fun _ => Ctx J H) := by
  have hsz : 1 ≤ n.size ∧ n.size ≤ 20 := by
    simp only [nameB, Bool.and_eq_true, decide_eq_true_iff] at hn; exact hn.2
  have hle := len_cut (n := i + 1) hxs (by simp [hi])
  have e1 : xs[i]'(by omega) = (n.size : Int) := by simp [hxs, hi]
  have h2 : xs = (A ++ [(n.size : Int)]) ++ (sb n ++ B) := by rw [hxs]; simp
  have hle2 := len_cut (n := i + 1 + n.size) h2 (by simp [hi, sb_len])
  have e2 : sub xs (i + 1) (i + 1 + n.size) = sb n := sub_at _ _ _ h2 (by simp [hi]) (by simp [hi, sb_len])
  refine en0 Tryz.func87 rfl rfl rfl (addJ hJ (go ?_))
  rw [e1, show (i : Int) + 1 = ((i + 1 : Nat) : Int) by omega, show ((i + 1 : Nat) : Int) + (n.size : Int) = ((i + 1 + n.size : Nat) : Int) by omega]
  refine go ?_
  intro q
  rw [e2, str_sb]
  refine ca (cSecName (by omega)) fun _ _ => ?_
  rw [hn]
  refine go ?_
  rw [show (i : Int) + 1 = ((i + 1 : Nat) : Int) by omega, show ((i + 1 : Nat) : Int) + (n.size : Int) = ((i + 1 + n.size : Nat) : Int) by omega]
  exact rt () trivial rfl (fun _ h => h.ent fun _ j => j.2.2)
end
end
end Go.Proofs.YtimemehaccgmmaaGreatDoor
namespace Go.Proofs.YtimemehaccgmmaaGreatDoor
open Go.RowKit
set_option maxRecDepth 100000
set_option linter.unusedVariables false
set_option linter.unusedSimpArgs false
noncomputable section
section
variable {P : Program} {n : Fr} {ops : Array Oper} {o : Oper} {l : List Oper} {s : List KI} {L : Env} {Q : Exit → Act → World → Prop} {J : List (World → Prop)} {H : List RC}
/-- A block whose end is marked. -/
def ptM (b : Nat) (t : TypeId) (vs : List Value) (mk : Nat × Nat) : RC := ⟨[b], fun w => w.heap[b]? = some (.cells vs.toArray t mk), fun w w' h ha => by rw [h b (by simp)]; exact ha⟩
/-- Bytes of a constant text. -/
theorem oCvB {t e : TypeId} {x : Operand} {b m : Nat} {vs : List Value} {xs : List Int} (ho : o.op = .convert t t x) (hx : ev L x = some (.slice (some ⟨b, 0, none⟩) m m)) (hm : m = xs.length) (hv : vs = xs.flatMap (fI .u8)) (hl : xs.length ≤ 1000000) (ht : P.underlying t = some (.slice e)) (he : P.underlying e = some (.int .u8)) :
    OS P o L (Ctx J (pt b e vs :: H)) (fun _ : Unit => .slice (some ⟨b, 0, none⟩) m m) (fun _ => True) (fun _ => Ctx (Rs (fI .u8) 1 (some ⟨b, 0, none⟩) xs.length xs :: J) H) := by
  intro ρ w hρ hc
  have hb : w.heap[b]? = some (.cells vs.toArray e (0, 0)) := hc.hs.1
  have hlt := lt_of_heap hb
  have hsh : w.shape? b = some (e, vs.length) := by unfold World.shape?; rw [hb]; simp
  have hfr : (w.freeze ⟨b, vs.length, none⟩ 1).heap[b]? = some (.cells vs.toArray e (vs.length, vs.length + 1)) := by
    unfold World.freeze
    rw [if_neg (by decide)]
    simp [Array.getElem?_modify, hb]
  have hkp : Kp [b] w (w.freeze ⟨b, vs.length, none⟩ 1) := by
    unfold World.freeze
    rw [if_neg (by decide)]
    exact ⟨rfl, rfl, rfl, by simp, fun k hk hn => by simp [Array.getElem?_modify]; intro e; simp at hn; exact absurd e.symm hn, Nat.le_refl _⟩
  refine Yl_val (v := .slice (some ⟨b, 0, none⟩) m m) (w := w.freeze ⟨b, vs.length, none⟩ 1) ?_ ⟨(), rfl, trivial, ?_⟩
  · simp only [execOp, ho, hρ _ _ hx]
    rw [Sem.run_bind]
    have : (convert t t (.slice (some ⟨b, 0, none⟩) m m)).run P w = .ok (.slice (some ⟨b, 0, none⟩) m m) (w.freeze ⟨b, vs.length, none⟩ 1) := by
      simp [convert, run_und ht, run_und he, markStringish, hsh]
    rw [this]; rfl
  · refine (Ctx.fz (r := ptM b e vs (vs.length, vs.length + 1)) (hc.upd hkp hfr (fun c hc' => ?_) (by simp [ptM]))).ent fun w' j => ⟨⟨Nat.le_refl _, by omega, fun i hi => ⟨b, 0, rfl, fun j' hj => ?_⟩⟩, j.2⟩
    · simp [ptM] at hc'; subst hc'
      exact ⟨.inl (by simp [pt]), lt_of_heap hfr⟩
    · have hj1 : w'.heap[b]? = some (.cells vs.toArray e (vs.length, vs.length + 1)) := j.1
      obtain rfl : j' = 0 := by omega
      unfold World.cell?
      rw [hj1]
      have h7 : ∀ (l : List Int) (i : Nat) (h : i < l.length), (l.flatMap (fI .u8))[i]? = some (.int .u8 l[i]) := fun l => by
        induction l with
        | nil => intro i h; simp at h
        | cons a l ih =>
          intro i h
          cases i with
          | zero => rfl
          | succ i => simpa [fI] using ih i (by simpa using h)
      show vs.toArray[0 + i * 1 + 0]? = some (.int .u8 xs[i])
      rw [hv]
      simpa using h7 xs i hi
end
section
variable {J : List (World → Prop)} {H : List RC} {ad : Option Addr} {cap i : Nat} {l : List Sec} {xs A B : List Int} {L : List (ByteArray × List Int)}
theorem secB_len {x : ByteArray × List Int} : (secB x).length = 1 + x.1.size + x.2.length + 8 := by
  simp [secB, sb_len, frame_len]; omega
theorem secs_len {k : Nat} (h : (secsB L).length ≤ 9000000) : 6 + ((L.take k).flatMap secB).length ≤ 9000000 := by
  have : ((L.take k).flatMap secB).length ≤ (L.flatMap secB).length := by
    conv => rhs; rw [← List.take_append_drop k L, List.flatMap_append, List.length_append]
    omega
  simp only [secsB, List.length_append, le_len, List.length_cons, List.length_nil] at h
  omega
set_option maxHeartbeats 4000000 in
theorem cSWrite (h : SeOk (l.map Sec.pl)) (hl : (secsB (l.map Sec.pl)).length ≤ 9000000) (hJ : Ent J (Rs fSec 2 ad cap l) := by exact jA) (hJ2 : Ent J (AllE sF8 l) := by exact jA) :
    Tr TP 32 [.slice ad l.length cap] (Ctx J H) (fun q : Q2 => .tuple #[.slice q.1 (secsB (l.map Sec.pl)).length q.2, .int .i64 0]) (fun _ => True) (fun q => Ctx J (sl f8 1 5 q.1 q.2 (secsB (l.map Sec.pl)) :: H)) := by
  have hbl : l.length ≤ 200 := by simpa using h.bl
  generalize eL : l.map Sec.pl = L at h hl ⊢
  have hLl : L.length = l.length := by rw [← eL]; simp
  refine en0 Tryz.func32 rfl rfl rfl (addJ hJ (go ?_))
  refine ca (cSMay (eL ▸ h)) fun _ _ => ?_
  refine go ?_
  intro b
  refine hA rfl rfl rfl (oCvB (xs := [73, 83, 71, 76]) rfl rfl rfl rfl (by decide) rfl rfl) rfl ?_
  refine go ?_
  refine cg (cA16 (xs := [73, 83, 71, 76]) (n := l.length)) fun s0 _ => ?_
  rw [← hLl]
  refine lp (X := Nat × Q2) (fun x => x.1 ≤ L.length) (fun (k, s) => [(5, .slice s.1 ([73, 83, 71, 76] ++ le 2 L.length ++ (L.take k).flatMap secB).length s.2), (19, .slice ad l.length cap), (20, .int .i64 l.length), (21, .int .i64 k)])
    (fun (k, s) => Ctx (Rs fSec 2 ad cap l :: J) (sl f8 1 5 s.1 s.2 ([73, 83, 71, 76] ++ le 2 L.length ++ (L.take k).flatMap secB) :: H)) (fun x => L.length - x.1) (0, s0) (by simp) (by simp [hLl]) (fun _ h => by simpa using h.ent fun _ j => j.2) fun ⟨k, s⟩ hk => ?_
  dsimp only at hk
  have hlk := secs_len (k := k) hl
  refine go ?_
  refine ⟨fun h1 => ?_, fun h1 => ?_⟩
  · have hk1 : k < l.length := by omega
    have hk2 : k < L.length := by omega
    have hpl : L[k] = l[k].pl := by simp [← eL]
    have hlk2 := secs_len (k := k + 1) hl
    have hx2 : [73, 83, 71, 76] ++ le 2 L.length ++ (L.take (k + 1)).flatMap secB = [73, 83, 71, 76] ++ le 2 L.length ++ (L.take k).flatMap secB ++ [(l[k].n.size : Int)] ++ sb l[k].n ++ frame l[k].b := by rw [flat_take_succ hk2, hpl]; simp [secB, Sec.pl]
    have hsz := h.sz _ (List.getElem_mem hk2)
    rw [hpl] at hsz
    simp only [Sec.pl] at hsz
    generalize eP : [73, 83, 71, 76] ++ le 2 L.length ++ (L.take k).flatMap secB = P0 at hx2
    have hP1 : P0.length ≤ 9000000 := by rw [← eP]; simp only [List.length_append, le_len, List.length_cons, List.length_nil]; omega
    have hP2 : (P0 ++ [(l[k].n.size : Int)]).length ≤ 9000001 := by simp; omega
    have hP3 : (P0 ++ [(l[k].n.size : Int)] ++ sb l[k].n).length ≤ 9000021 := by simp [sb_len]; omega
    refine go ?_
    dsimp only
    rw [eP]
    intro c d
    refine go ?_
    intro q2 q3
    refine cg (cFrame (xs := l[k].b) (hJ := fun w j => (hJ2 w j.2).at hk1) (hb := by have := (h.bb _ (List.getElem_mem hk2)).1; rw [hpl] at this; simp only [Sec.pl] at this; omega)) fun q4 _ => ?_
    refine fz (fr 1 rfl ?_)
    have hfl : (frame l[k].b).length ≤ 1000008 := by have := (h.bb _ (List.getElem_mem hk2)).1; rw [hpl] at this; simp only [Sec.pl] at this; rw [frame_len]; omega
    refine apJ (ys := frame l[k].b) je0 (by omega) fun q5 => ?_
    rw [← hx2]
    refine go ?_
    exact en (k + 1, q5) (by dsimp only; omega) rfl (fun _ h => (h.drp 1).ent fun _ j => j.2)
  obtain rfl : k = L.length := by omega
  refine go ?_
  dsimp only
  rw [List.take_length]
  exact rt s trivial rfl (fun _ h => h.ent fun _ j => j.2)
end
end
end Go.Proofs.YtimemehaccgmmaaGreatDoor
namespace Go.Proofs.YtimemehaccgmmaaGreatDoor
open Go.RowKit
set_option maxRecDepth 100000
set_option linter.unusedVariables false
set_option linter.unusedSimpArgs false
noncomputable section
theorem secsB_B8 {L : List (ByteArray × List Int)} (h : SeOk L) : B8 (secsB L) := fun y hy => by
  have hb := h.bl
  simp only [secsB, List.mem_append, List.mem_cons, List.not_mem_nil, or_false] at hy
  rcases hy with ((rfl | rfl | rfl | rfl) | hy) | hy
  · decide
  · decide
  · decide
  · decide
  · exact le_B8 _ _ y hy
  · obtain ⟨x, hx', hy⟩ := List.mem_flatMap.1 hy
    have hs := h.sz x hx'
    simp only [secB, List.mem_append, List.mem_cons, List.not_mem_nil, or_false] at hy
    rcases hy with (rfl | hy) | hy
    · omega
    · exact sb_B8 _ y hy
    · exact frame_B8 (h.bb x hx').2 y hy
section
variable {J : List (World → Prop)} {H : List RC} {ad : Option Addr} {cap i : Nat} {l : List Sec} {xs A B : List Int} {L : List (ByteArray × List Int)}
theorem cUnf {ys : List Int} (hxs : xs = A ++ (frame ys ++ B)) (hi : i = A.length) (hb : xs.length ≤ 10000000) (h8 : B8 (frame ys ++ B)) (hJ : Ent J (Rs f8 1 ad cap xs) := by exact jA) :
    Tr TP 89 [.slice ad xs.length cap, .int .i64 i] (Ctx J H) (fun q : Q2 => .tuple #[.slice q.1 ys.length q.2, .int .i64 ((i + ys.length + 8 : Nat) : Int), .int .i64 0]) (fun _ => True) (fun q => Ctx (Rs f8 1 q.1 q.2 ys :: J) H) := by
  subst hxs
  exact cUnframe hJ hi hb h8
set_option maxHeartbeats 8000000 in
theorem cSRead (h : SeOk L) (hl : (secsB L).length ≤ 9000000) (hxs : xs = secsB L) (hJ : Ent J (Rs f8 1 ad cap xs) := by exact jA) :
    Tr TP 34 [.slice ad xs.length cap] (Ctx J H) (fun x : Q2 × List Sec => .tuple #[.slice x.1.1 x.2.length x.1.2, .int .i64 0]) (fun x => x.2.map Sec.pl = L) (fun x => Ctx (AllE sF8 x.2 :: Rs fSec 2 x.1.1 x.1.2 x.2 :: J) H) := by
  have hbl := h.bl
  have h8 : B8 xs := hxs ▸ secsB_B8 h
  have hle : 6 + (L.flatMap secB).length = xs.length := by rw [hxs]; simp only [secsB, List.length_append, le_len, List.length_cons, List.length_nil]
  rw [← hxs] at hl
  refine en0 Tryz.func34 rfl rfl rfl (addJ hJ (go ?_))
  have hz4 : (ByteArray.mk #[73, 83, 71, 76]).size = 4 := rfl
  have h4 : (4 : Int) < (xs.length : Int) := by omega
  rw [if_pos h4, show (4 : Int) = ((4 : Nat) : Int) from rfl]
  refine go ?_
  intro q0
  have f1 : sub xs 0 4 = [73, 83, 71, 76] := sub_at [] [73, 83, 71, 76] (le 2 L.length ++ L.flatMap secB) (by rw [hxs]; simp [secsB]) rfl rfl
  rw [f1]
  refine ⟨fun hh => absurd rfl hh, fun _ => go ?_⟩
  have e4 : xs[4]'(by omega) = (L.length : Int) := by
    have : xs[4]'(by omega) = ((L.length : Nat) : Int) / 256 ^ 0 % 256 := by simp [hxs, secsB, le, List.range_succ]
    rw [this]; omega
  have e5 : xs[5]'(by omega) = 0 := by
    have : xs[5]'(by omega) = ((L.length : Nat) : Int) / 256 ^ 1 % 256 := by simp [hxs, secsB, le, List.range_succ]
    rw [this]; omega
  rw [e4, e5, show IntKind.i64.wrap (IntKind.i64.wrap (L.length : Int) + IntKind.i64.wrap (IntKind.i64.wrap 0 * 2 ^ min 8 IntKind.i64.bits)) = (L.length : Int) by rw [show IntKind.i64.wrap (IntKind.i64.wrap 0 * 2 ^ min 8 IntKind.i64.bits) = 0 by decide, Int.add_zero, IntWalk.i64_in (L.length : Int) (by omega), IntWalk.i64_in (L.length : Int) (by omega)]]
  refine ⟨fun hh => absurd hh (by omega), fun _ => go ?_⟩
  refine nwS fSec 2 157 none ?_
  refine lp (X := Nat × Q2 × List Sec) (fun x => x.1 ≤ L.length ∧ x.2.2.length = x.1 ∧ x.2.2.map Sec.pl = L.take x.1) (fun (k, q, X) => [(0, .slice ad xs.length cap), (6, .int .i64 ((6 + ((L.take k).flatMap secB).length : Nat) : Int)), (7, .slice q.1 X.length q.2), (39, .int .i64 L.length), (40, .int .i64 k)])
    (fun (k, q, X) => Ctx (AllE sF8 X :: Rs f8 1 ad cap xs :: J) (sl fSec 2 157 q.1 q.2 X :: H)) (fun x => L.length - x.1) (0, (none, 0), []) (by simp) rfl (fun _ h => h.ent fun _ j => ⟨(fun _ h => nomatch h), j.2⟩) fun ⟨k, q, X⟩ ⟨hk, hXl, hX⟩ => ?_
  dsimp only at hk hXl hX
  refine go ?_
  refine ⟨fun h1 => ?_, fun h1 => ?_⟩
  · have hk1 : k < L.length := by omega
    have hsz := h.sz _ (List.getElem_mem hk1)
    have hnm := h.nm _ (List.getElem_mem hk1)
    have hbb := h.bb _ (List.getElem_mem hk1)
    have hP : xs = ([73, 83, 71, 76] ++ le 2 L.length ++ (L.take k).flatMap secB) ++ ([(L[k].1.size : Int)] ++ (sb L[k].1 ++ (frame L[k].2 ++ (L.drop (k + 1)).flatMap secB))) := by
      rw [hxs, secsB, flat_split' hk1]; simp [secB]
    have hPl : ([73, 83, 71, 76] ++ le 2 L.length ++ (L.take k).flatMap secB).length = 6 + ((L.take k).flatMap secB).length := by simp only [List.length_append, le_len, List.length_cons, List.length_nil]
    generalize [73, 83, 71, 76] ++ le 2 L.length ++ (L.take k).flatMap secB = P0 at hP hPl
    have hnx : 6 + ((L.take (k + 1)).flatMap secB).length = 6 + ((L.take k).flatMap secB).length + 1 + L[k].1.size + L[k].2.length + 8 := by rw [flat_take_succ hk1, List.length_append, secB_len]; omega
    have hP2 : xs = (P0 ++ [(L[k].1.size : Int)] ++ sb L[k].1) ++ (frame L[k].2 ++ (L.drop (k + 1)).flatMap secB) := by rw [hP]; simp only [List.append_assoc]
    refine go ?_
    dsimp only
    rw [← hPl]
    refine cg (cName hnm hP rfl (by omega)) fun _ _ => ?_
    refine ca (brw (R := Rs fSec 2 q.1 q.2 X) (fun w h => OwnS.rd h inferInstance) fun J' hR _ => cSFind (hJ := hR)) fun _ _ => ?_
    rw [find_no (s := L[k].1) fun x hx' e => ?_]
    rotate_left
    · have hm : x.pl ∈ L.take k := by rw [← hX]; exact List.mem_map.2 ⟨x, hx', rfl⟩
      obtain ⟨j, hj, e2⟩ := List.getElem_of_mem hm
      rw [List.length_take] at hj
      have h3 := List.pairwise_iff_getElem.1 h.nd j k (by simp; omega) (by simpa using hk1) (by omega)
      simp only [List.getElem_map] at h3
      rw [List.getElem_take] at e2
      rw [e2] at h3
      exact h3 e
    refine go ?_
    rw [show P0.length + 1 + L[k].1.size = (P0 ++ [(L[k].1.size : Int)] ++ sb L[k].1).length by simp [sb_len]; omega]
    refine cg (cUnf hP2 rfl (by omega) (fun y hy => h8 y (by rw [hP2]; exact List.mem_append_right _ hy))) fun q2 _ => ?_
    intro b2
    refine ap1 (f := fSec) ⟨L[k].1, q2, L[k].2⟩ fun q3 => ?_
    rw [show (P0 ++ [(L[k].1.size : Int)] ++ sb L[k].1).length + L[k].2.length + 8 = 6 + ((L.take (k + 1)).flatMap secB).length by rw [hnx]; simp only [List.length_append, List.length_cons, List.length_nil, sb_len]; omega]
    refine go ?_
    exact en (k + 1, q3, X ++ [Sec.mk L[k].1 q2 L[k].2]) ⟨⟨by dsimp only; omega, by simp [hXl], by dsimp only; rw [List.map_append, hX]; exact List.take_append_getElem hk1⟩, by dsimp only; omega⟩ rfl (fun _ h => h.ent fun _ j => ⟨j.2.1.snoc j.1, j.2.2⟩)
  obtain rfl : k = L.length := by omega
  refine go ?_
  dsimp only
  rw [List.take_length] at hX ⊢
  refine ⟨fun hh => absurd hh (by omega), fun _ => fz (go ?_)⟩
  exact rt (q, X) hX rfl (fun _ h => h.ent fun _ j => ⟨j.2.1, j.1, j.2.2.2⟩)
end
end
end Go.Proofs.YtimemehaccgmmaaGreatDoor
