/-
  Parts of the walks and their plain laws (R24 R25 R26 R27 R28 W8). No condition.
-/
import Derived.Test.YtimemehaccgmmaaGreatDoorM19
import Derived.Test.YtimemehaccgmmaaGreatDoorM10
import Derived.Test.YtimemehaccgmmaaGreatDoorM13
import Derived.Test.YtimemehaccgmmaaGreatDoorM09
namespace Go.Proofs.YtimemehaccgmmaaGreatDoor
open Go.RowKit
set_option maxRecDepth 100000
set_option linter.unusedVariables false
set_option linter.unusedSimpArgs false
noncomputable section
abbrev fq := fN .u32
theorem cloneQ : CloneT 213 fq 1 85 := fun hJ hb => clone hJ hb
section
variable {J : List (World → Prop)} {H : List RC} {ad : Option Addr} {cap : Nat} {xs : List Nat}
theorem cNanQ {x : Int} : Tr TP 341 [.int .u32 x] (Ctx J H) (fun _ : Unit => .bool false) (fun _ => True) (fun _ => Ctx J H) := by
  refine en0 Tryz.func341 rfl rfl rfl (go ?_)
  rw [show decide (x ≠ x) = false by simp]
  exact rt () trivial rfl (fun _ h => h)
theorem cLessQ {x y : Int} : Tr TP 307 [.int .u32 x, .int .u32 y] (Ctx J H) (fun _ : Unit => .bool (decide (x < y))) (fun _ => True) (fun _ => Ctx J H) := by
  refine en0 Tryz.func307 rfl rfl rfl (go ?_)
  refine cg cNanQ fun _ _ => ?_
  exact rt () trivial rfl (fun _ h => h)
theorem srt_at (hs' : xs.Pairwise (· < ·)) {i j : Nat} (hi : i ≤ j) (hj : j < xs.length) : ¬ xs[j] < xs[i] := by
  rcases Nat.lt_or_eq_of_le hi with h | h
  · have := List.pairwise_iff_getElem.1 hs' i j (by omega) hj h; omega
  · subst h; omega
theorem cInsQ (hb : xs.length ≤ 12) (hs' : xs.Pairwise (· < ·)) : Tr TP 301 [.slice ad xs.length cap, .int .i64 0, .int .i64 xs.length] (Ctx J (sl fq 1 85 ad cap xs :: H)) (fun _ : Unit => .tuple #[]) (fun _ => True) (fun _ => Ctx J (sl fq 1 85 ad cap xs :: H)) := by
  refine en0 Tryz.func301 rfl rfl rfl (go ?_)
  refine lp (X := Nat) (fun i => 1 ≤ i ∧ (i ≤ xs.length ∨ i = 1)) (fun i => [(0, .slice ad xs.length cap), (1, .int .i64 0), (2, .int .i64 xs.length), (6, .int .i64 i)]) (fun _ => Ctx J (sl fq 1 85 ad cap xs :: H)) (fun i => xs.length + 1 - i) 1 (by simp) rfl (fun _ h => h) fun i ⟨hi, hi2⟩ => ?_
  refine go ?_
  refine ⟨fun h => ?_, fun h => ?_⟩
  · have hlt := srt_at hs' (i := i - 1) (j := i) (by omega) (by omega)
    refine go ?_
    refine lp (X := Unit) (fun _ => True) (fun _ => [(0, .slice ad xs.length cap), (1, .int .i64 0), (2, .int .i64 xs.length), (6, .int .i64 i), (7, .int .i64 i)]) (fun _ => Ctx J (sl fq 1 85 ad cap xs :: H)) (fun _ => 0) () trivial rfl (fun _ h => h) fun _ _ => ?_
    refine go ?_
    rw [show decide (0 < (i : Int)) = true from decide_eq_true (by omega)]
    refine go ?_
    rw [show (i : Int) - 1 = ((i - 1 : Nat) : Int) by omega]
    refine go ?_
    refine cg cLessQ fun _ _ => ?_
    exact en (i + 1) (by omega) (by simp [bind1])
  · refine go ?_
    exact rtE () trivial rfl (fun _ h => h)
theorem cOrd2 {p i j : Nat} (hs' : xs.Pairwise (· < ·)) (hi : i ≤ j) (hj : j < xs.length) (hb : xs.length ≤ 1000) : Tr TP 359 [.slice ad xs.length cap, .int .i64 i, .int .i64 j, pb p] (Ctx J (pt p 3 [.int .i64 0] :: sl fq 1 85 ad cap xs :: H)) (fun _ : Unit => .tuple #[.int .i64 i, .int .i64 j]) (fun _ => True) (fun _ => Ctx J (pt p 3 [.int .i64 0] :: sl fq 1 85 ad cap xs :: H)) := by
  have hlt := srt_at hs' hi hj
  refine en0 Tryz.func359 rfl rfl rfl (go ?_)
  refine cg cLessQ fun _ _ => ?_
  exact rt () trivial rfl (fun _ h => h)
theorem cMed {p i j k : Nat} (hs' : xs.Pairwise (· < ·)) (hi : i ≤ j) (hj : j ≤ k) (hk : k < xs.length) (hb : xs.length ≤ 1000) : Tr TP 340 [.slice ad xs.length cap, .int .i64 i, .int .i64 j, .int .i64 k, pb p] (Ctx J (pt p 3 [.int .i64 0] :: sl fq 1 85 ad cap xs :: H)) (fun _ : Unit => .int .i64 j) (fun _ => True) (fun _ => Ctx J (pt p 3 [.int .i64 0] :: sl fq 1 85 ad cap xs :: H)) := by
  refine en0 Tryz.func340 rfl rfl rfl (go ?_)
  refine cg (cOrd2 hs' hi (by omega) hb) fun _ _ => ?_
  refine cg (cOrd2 hs' hj hk hb) fun _ _ => ?_
  refine cg (cOrd2 hs' hi (by omega) hb) fun _ _ => ?_
  exact rt () trivial rfl (fun _ h => h)
theorem cMedA {p i : Nat} (hs' : xs.Pairwise (· < ·)) (hi : 1 ≤ i) (hk : i + 1 < xs.length) (hb : xs.length ≤ 1000) : Tr TP 339 [.slice ad xs.length cap, .int .i64 i, pb p] (Ctx J (pt p 3 [.int .i64 0] :: sl fq 1 85 ad cap xs :: H)) (fun _ : Unit => .int .i64 i) (fun _ => True) (fun _ => Ctx J (pt p 3 [.int .i64 0] :: sl fq 1 85 ad cap xs :: H)) := by
  refine en0 Tryz.func339 rfl rfl rfl (go ?_)
  rw [show (i : Int) - 1 = ((i - 1 : Nat) : Int) by omega, show (i : Int) + 1 = ((i + 1 : Nat) : Int) by omega]
  refine cg (cMed hs' (by omega) (by omega) hk hb) fun _ _ => ?_
  exact rt () trivial rfl (fun _ h => h)
set_option maxHeartbeats 4000000 in
theorem cPiv (hs' : xs.Pairwise (· < ·)) (h12 : 12 < xs.length) (hb : xs.length ≤ 1000) : Tr TP 304 [.slice ad xs.length cap, .int .i64 0, .int .i64 xs.length] (Ctx J (sl fq 1 85 ad cap xs :: H)) (fun _ : Unit => .tuple #[.int .i64 (xs.length / 4 * 2 : Nat), .int .i64 1]) (fun _ => True) (fun _ => Ctx J (sl fq 1 85 ad cap xs :: H)) := by
  refine en0 Tryz.func304 rfl rfl rfl (go ?_)
  intro p
  rw [show (0 : Int) + ((xs.length : Int) - 0) / 4 * 1 = ((xs.length / 4 : Nat) : Int) by omega, show (0 : Int) + ((xs.length : Int) - 0) / 4 * 2 = ((xs.length / 4 * 2 : Nat) : Int) by omega, show (0 : Int) + ((xs.length : Int) - 0) / 4 * 3 = ((xs.length / 4 * 3 : Nat) : Int) by omega]
  refine ⟨fun h => ?_, fun h => ?_⟩
  · refine go ?_
    refine cg (cMedA hs' (by omega) (by omega) hb) fun _ _ => ?_
    refine cg (cMedA hs' (by omega) (by omega) hb) fun _ _ => ?_
    refine cg (cMedA hs' (by omega) (by omega) hb) fun _ _ => ?_
    refine cg (cMed hs' (by omega) (by omega) (by omega) hb) fun _ _ => ?_
    exact rv () trivial fun _ h => h.drp 0
  · refine go ?_
    refine cg (cMed hs' (by omega) (by omega) (by omega) hb) fun _ _ => ?_
    exact rv () trivial fun _ h => h.drp 0
set_option maxHeartbeats 4000000 in
theorem cPar (hs' : xs.Pairwise (· < ·)) (h12 : 0 < xs.length) (hb : xs.length ≤ 1000) : Tr TP 306 [.slice ad xs.length cap, .int .i64 0, .int .i64 xs.length] (Ctx J (sl fq 1 85 ad cap xs :: H)) (fun _ : Unit => .bool true) (fun _ => True) (fun _ => Ctx J (sl fq 1 85 ad cap xs :: H)) := by
  refine en0 Tryz.func306 rfl rfl rfl (go ?_)
  refine lp (X := Unit) (fun _ => True) (fun _ => [(0, .slice ad xs.length cap), (1, .int .i64 0), (2, .int .i64 xs.length), (7, .int .i64 (1 : Nat)), (8, .int .i64 0)]) (fun _ => Ctx J (sl fq 1 85 ad cap xs :: H)) (fun _ => 0) () trivial rfl (fun _ h => h) fun _ _ => ?_
  refine go ?_
  refine lp (X := Nat) (fun i => 1 ≤ i ∧ i ≤ xs.length) (fun i => [(0, .slice ad xs.length cap), (1, .int .i64 0), (2, .int .i64 xs.length), (7, .int .i64 i), (8, .int .i64 0)]) (fun _ => Ctx J (sl fq 1 85 ad cap xs :: H)) (fun i => xs.length - i) 1 (by omega) rfl (fun _ h => h) fun i ⟨hi, hi2⟩ => ?_
  by_cases h : i < xs.length
  · have hlt := srt_at hs' (i := i - 1) (j := i) (by omega) (by omega)
    refine go ?_
    rw [show decide ((i : Int) < (xs.length : Int)) = true from decide_eq_true (by omega)]
    refine go ?_
    rw [show (i : Int) - 1 = ((i - 1 : Nat) : Int) by omega]
    refine go ?_
    refine cg cLessQ fun _ _ => ?_
    refine ⟨fun _ => go ?_, fun h => by exfalso; omega⟩
    exact en (i + 1) (by omega)
  · refine go ?_
    rw [show decide ((i : Int) < (xs.length : Int)) = false from decide_eq_false (by omega)]
    refine go ?_
    exact rv () trivial fun _ h => h
set_option maxHeartbeats 4000000 in
theorem cPdq {li : Int} (hs' : xs.Pairwise (· < ·)) (hb : xs.length ≤ 1000) (hli : xs.length = 0 ∨ li ≠ 0) : Tr TP 261 [.slice ad xs.length cap, .int .i64 0, .int .i64 xs.length, .int .i64 li] (Ctx J (sl fq 1 85 ad cap xs :: H)) (fun _ : Unit => .tuple #[]) (fun _ => True) (fun _ => Ctx J (sl fq 1 85 ad cap xs :: H)) := by
  refine en0 Tryz.func261 rfl rfl rfl (go ?_)
  refine lp (X := Unit) (fun _ => True) (fun _ => [(0, .slice ad xs.length cap), (1, .int .i64 0), (2, .int .i64 xs.length), (3, .int .i64 li), (8, .bool true), (9, .bool true)]) (fun _ => Ctx J (sl fq 1 85 ad cap xs :: H)) (fun _ => 0) () trivial rfl (fun _ h => h) fun _ _ => ?_
  refine go ?_
  refine br (fun h => ?_) fun h => ?_
  · refine cg (cInsQ (by omega) hs') fun _ _ => ?_
    exact rv () trivial (fun _ h => h)
  · refine cg (cPiv hs' (by omega) hb) fun _ _ => ?_
    refine cg (cPar hs' (by omega) hb) fun _ _ => ?_
    exact rv () trivial (fun _ h => h)
theorem bl_pos {n : Nat} (h : n ≠ 0) : bl n ≠ 0 := by
  simp [bl, h]
theorem cSortQ (hs' : xs.Pairwise (· < ·)) (hb : xs.length ≤ 250) : Tr TP 214 [.slice ad xs.length cap] (Ctx J (sl fq 1 85 ad cap xs :: H)) (fun _ : Unit => .tuple #[]) (fun _ => True) (fun _ => Ctx J (sl fq 1 85 ad cap xs :: H)) := by
  refine en0 Tryz.func214 rfl rfl rfl (go ?_)
  refine cg (cLen (x := xs.length) (by omega)) fun _ _ => ?_
  refine cg (cPdq hs' (by omega) (by have := @bl_pos xs.length; omega)) fun _ _ => ?_
  exact rtE () trivial rfl (fun _ h => h)
end
end
end Go.Proofs.YtimemehaccgmmaaGreatDoor
namespace Go.Proofs.YtimemehaccgmmaaGreatDoor
open Go.RowKit
set_option maxRecDepth 100000
set_option linter.unusedVariables false
set_option linter.unusedSimpArgs false
noncomputable section
section
variable {J : List (World → Prop)} {H : List RC} {p q g : Nat → Bool} {ad : Option Addr} {cap : Nat}
theorem srt_lt {xs : List Nat} (hs' : xs.Pairwise (· < ·)) {i j : Nat} (hi : i < j) (hj : j < xs.length) : xs[i] < xs[j] := List.pairwise_iff_getElem.1 hs' i j (by omega) hj hi
theorem shr0 {x : Nat} (h : x < 64) : (x : Int) / 2 ^ min 16 (IntKind.bits .u32) = ((0 : Nat) : Int) := by
  show (x : Int) / 2 ^ 16 = 0
  omega
theorem shr0m {x : Nat} (h : x < 64) : (x : Int) / 2 ^ min 16 (IntKind.bits .u32) % 65536 = ((0 : Nat) : Int) := by
  rw [shr0 h]; rfl
set_option maxHeartbeats 4000000 in
theorem cSetOf (hne : em p = false) (hp : P60 p) (hT : Ent J TabT) (hJ : Ent J (Rs fq 1 ad cap (fl p 64)) := by exact jA) :
    Tr TP 146 [.slice ad (fl p 64).length cap] (Ctx J H) (fun x : SetD => pb x.b) (fun _ => True) (fun x => Ctx (sF x p false :: J) H) := by
  have h0 : 0 < (fl p 64).length := by
    unfold em at hne
    cases h : fl p 64 with
    | nil => rw [h] at hne; cases hne
    | cons a l => simp
  have hl : (fl p 64).length ≤ 64 := by
    have := @fl_len p 64; omega
  have hsr : (fl p 64).Pairwise (· < ·) := fl_pw
  have hlt : ∀ i (h : i < (fl p 64).length), (fl p 64)[i] < 64 := fun i h => (mem_fl.1 (List.getElem_mem h)).1
  refine en0 Tryz.func146 rfl rfl rfl (go ?_)
  refine cg (cloneQ hJ (by omega)) fun q0 _ => ?_
  refine cg (cSortQ hsr (by omega)) fun _ _ => ?_
  refine fzc ?_
  refine cg cNewS fun b _ => ?_
  refine nwS fh 1 152 none ?_
  refine lp (X := Nat × Q2) (fun (k, u) => k ≤ (fl p 64).length) (fun (k, u) => [(0, .slice q0.1 (fl p 64).length q0.2), (3, pb b), (4, .slice u.1 k u.2), (12, .slice q0.1 (fl p 64).length q0.2), (13, .int .i64 (fl p 64).length), (14, .int .i64 k)])
    (fun (k, u) => Ctx (Rs fq 1 q0.1 q0.2 (fl p 64) :: J) (sl fh 1 152 u.1 u.2 ((fl p 64).take k) :: pt b 306 [.slice none 0 0, .slice none 0 0] :: H)) (fun x => (fl p 64).length - x.1) (0, none, 0) (by dsimp only; omega) rfl (fun _ h => h) fun ⟨k, u⟩ hk => ?_
  dsimp only at hk
  refine go ?_
  refine br (fun h0k => ?_) fun h0k => ?_
  · have h : k < (fl p 64).length := by omega
    have hx1 := hlt k h
    refine ⟨fun h1 => ?_, fun h1 => ?_⟩
    · have hx2 := srt_lt hsr (i := k - 1) (j := k) (by omega) (by omega)
      have hx3 := hlt (k - 1) (by omega)
      refine go ?_
      rw [show (k : Int) - 1 = ((k - 1 : Nat) : Int) by omega]
      refine ⟨fun _ => go ?_, fun h => nomatch h⟩
      rw [show (k : Int) - 1 = ((k - 1 : Nat) : Int) by omega]
      refine ⟨fun _ => go ?_, fun h => nomatch h⟩
      rw [shr0 hx1, shr0 hx3]
      refine ⟨fun hh => absurd rfl hh, fun _ => go ?_⟩
      intro b3 q1
      rw [List.take_append_getElem h, show (List.take (k + 1) (fl p 64)).length = k + 1 by rw [List.length_take]; omega]
      exact en (k + 1, q1) (by dsimp only; omega)
    · refine go ?_
      intro b3 q1
      rw [List.take_append_getElem h, show (List.take (k + 1) (fl p 64)).length = k + 1 by rw [List.length_take]; omega]
      exact en (k + 1, q1) (by dsimp only; omega)
  · have hx3 := hlt ((fl p 64).length - 1) (by omega)
    rw [show ((fl p 64).length : Int) - 1 = (((fl p 64).length - 1 : Nat) : Int) by omega]
    refine go ?_
    rw [shr0m hx3]
    have e : k = (fl p 64).length := by omega
    subst e
    rw [List.take_length]
    refine fzc ?_
    refine cg (cPush hne hp (fun w j => hT w j.2.2)) fun y hy => ?_
    subst hy
    exact rt y trivial rfl (fun w h => h.ent fun w j => ⟨j.1, j.2.2.2⟩)
end
end
end Go.Proofs.YtimemehaccgmmaaGreatDoor
namespace Go.Proofs.YtimemehaccgmmaaGreatDoor
open Go.RowKit
set_option maxRecDepth 100000
set_option linter.unusedVariables false
set_option linter.unusedSimpArgs false
noncomputable section
section
variable {J : List (World → Prop)} {H : List RC} {p q g : Nat → Bool} {x : SetD} {k : Nat} {s : Q2} {ad : Option Addr} {cap : Nat}
def bA (l : List Nat) : List Int := l.flatMap fun x : Nat => le 2 (x : Int)
def bR (l : List (Nat × Nat)) : List Int := l.flatMap fun r => le 2 (r.1 : Int) ++ le 2 (r.2 : Int)
theorem bA_len (l : List Nat) : (bA l).length = 2 * l.length := by
  induction l with
  | nil => rfl
  | cons a l ih => simp only [bA, List.flatMap_cons, List.length_append] at ih ⊢; rw [ih]; simp [le]; omega
theorem bR_len (l : List (Nat × Nat)) : (bR l).length = 4 * l.length := by
  induction l with
  | nil => rfl
  | cons a l ih => simp only [bR, List.flatMap_cons, List.length_append] at ih ⊢; rw [ih]; simp [le]; omega
theorem bA_snoc (l : List Nat) (a : Nat) : bA (l ++ [a]) = bA l ++ le 2 (a : Int) := by simp [bA]
theorem bR_snoc (l : List (Nat × Nat)) (a : Nat × Nat) : bR (l ++ [a]) = bR l ++ (le 2 (a.1 : Int) ++ le 2 (a.2 : Int)) := by simp [bR]
theorem bA_B8 (l : List Nat) : B8 (bA l) := fun x hx => by
  obtain ⟨a, _, h⟩ := List.mem_flatMap.1 hx
  exact le_B8 2 _ x h
theorem bR_B8 (l : List (Nat × Nat)) : B8 (bR l) := fun x hx => by
  obtain ⟨a, _, h⟩ := List.mem_flatMap.1 hx
  rcases List.mem_append.1 h with h | h <;> exact le_B8 2 _ x h
/-- the bytes of a container -/
def bd (p : Nat → Bool) : List Int := if cn p = 3 then le 2 ((rn p).length : Int) ++ bR (rn p) else bA (fl p 64)
theorem cAll (hJ : Ent J (sF x p false)) : Tr TP 113 [pb x.b] (Ctx J H) (fun r : Q2 => .tuple #[.slice r.1 1 r.2, .int .i64 (if cn p = 3 then 1 else 0 : Nat)]) (fun _ => True) (fun r => Ctx J (sl (fCt (cn p) p) 4 232 r.1 r.2 [x.c] :: H)) := by
  have hc := cn_le p
  refine en0 Tryz.func113 rfl rfl rfl (go ?_)
  refine cg (cKeys hJ) fun r0 _ => ?_
  refine dr (go ?_)
  refine nwS (fCt (cn p) p) 4 232 none ?_
  refine lp (X := Nat × Q2) (fun x => x.1 = 0 ∨ x.1 = 1) (fun (d, u) => [(0, pb x.b), (2, .slice u.1 d u.2), (3, .int .i64 (if d = 0 then 0 else if cn p = 3 then 1 else 0 : Nat)), (9, .int .i64 1), (10, .int .i64 d)])
    (fun (d, u) => Ctx J (sl (fCt (cn p) p) 4 232 u.1 u.2 (if d = 0 then [] else [x.c]) :: H)) (fun x => 1 - x.1) (0, none, 0) (.inl rfl) rfl (fun _ h => h) fun ⟨d, u⟩ hz => ?_
  dsimp only at hz
  rcases hz with rfl | rfl
  · refine go ?_
    refine cg (cSAt hJ) fun _ _ => ?_
    intro b
    refine ca (cKind (k := cn p) (s := x.c) (p := p) hc.1) fun _ _ => ?_
    rcases hc.2 with e | e
    all_goals
      rw [e]
      refine go ?_
    · intro b2 u2
      exact en (1, u2) (by dsimp only; omega) rfl (fun w h => h.rest)
    · intro b2 u2
      exact en (1, u2) (by dsimp only; omega) rfl (fun w h => h.rest)
  · refine go ?_
    exact rv u trivial (fun w h => h)
theorem cHead1 : Tr TP 117 [.int .i64 1, .int .i64 0] (Ctx J H) (fun _ : Unit => .int .i64 16) (fun _ => True) (fun _ => Ctx J H) := by
  refine en0 Tryz.func117 rfl rfl rfl (go ?_)
  exact rv () trivial (fun _ h => h)
set_option maxHeartbeats 4000000 in
theorem cBody (hp : P60 p) (hT : Ent J TabT) (hJ : Ent J (cF (cn p) s p)) : Tr TP 119 [.agg ⟨cC (cn p) s p⟩] (Ctx J H) (fun r : Q2 => .slice r.1 (bd p).length r.2) (fun _ => True) (fun r => Ctx (Rs f8 1 r.1 r.2 (bd p) :: J) H) := by
  have hc := cn_le p
  have hl : (fl p 64).length ≤ 64 := fl_len
  have hl2 := rn_len hp
  refine en0 Tryz.func119 rfl rfl rfl (go ?_)
  intro b
  refine ca (cKind (k := cn p) (s := s) (p := p) hc.1) fun _ _ => ?_
  unfold bd
  rcases hc.2 with e | e
  · rw [e] at hJ ⊢
    refine go ?_
    refine ca (cArray (k := 1) (s := s) (p := p) (by omega) hp hT hJ) fun r _ => ?_
    refine fz (go ?_)
    refine lp (X := Nat × Q2) (fun (k, u) => k ≤ (fl p 64).length) (fun (k, u) => [(2, .slice u.1 (bA ((fl p 64).take k)).length u.2), (13, .slice r.1 (fl p 64).length r.2), (14, .int .i64 (fl p 64).length), (15, .int .i64 k)])
      (fun (k, u) => Ctx (Rs f8 1 u.1 u.2 (bA ((fl p 64).take k)) :: Rs fh 1 r.1 r.2 (fl p 64) :: J) (pt b 232 (cC 1 s p) :: H)) (fun x => (fl p 64).length - x.1) (0, none, 0) (by dsimp only; omega) rfl (fun _ h => h.ent fun w j => ⟨rNl w j, j⟩) fun ⟨k, u⟩ hk => ?_
    dsimp only at hk
    refine go ?_
    have hq : (bA ((fl p 64).take k)).length ≤ 200 := by rw [bA_len, List.length_take]; omega
    refine br (fun h0k => ?_) fun h0k => ?_
    · have h : k < (fl p 64).length := by omega
      have hx1 := (mem_fl.1 (List.getElem_mem h)).1
      refine cg (cA16 (hb := by omega)) fun u2 _ => ?_
      rw [← bA_snoc, List.take_append_getElem h]
      refine fz ?_
      exact en (k + 1, u2) (by dsimp only; omega) rfl (fun w h => h.ent fun w j => ⟨j.1, j.2.2⟩)
    · have e2 : k = (fl p 64).length := by omega
      subst e2
      rw [List.take_length]
      refine rv u trivial fun w h => ?_
      have h : Ctx (Rs f8 1 u.1 u.2 (bA ((fl p 64).take (fl p 64).length)) :: Rs fh 1 r.1 r.2 (fl p 64) :: J) (pt b 232 (cC 1 s p) :: H) w := h
      rw [List.take_length] at h
      exact h.rest.ent fun w j => ⟨j.1, j.2.2⟩
  · rw [e] at hJ ⊢
    refine go ?_
    refine ca (cRuns (k := 3) (s := s) (p := p) (by omega) hp hT hJ) fun r _ => ?_
    refine fz (go ?_)
    refine cg (cA16 (xs := []) (n := ((rn p).length : Int)) (hJ := rNl) (hn := by constructor <;> omega)) fun r0 _ => ?_
    refine fz ?_
    refine lp (X := Nat × Q2) (fun (k, u) => k ≤ (rn p).length) (fun (k, u) => [(2, .slice u.1 (le 2 ((rn p).length : Int) ++ bR ((rn p).take k)).length u.2), (32, .slice r.1 (rn p).length r.2), (33, .int .i64 (rn p).length), (34, .int .i64 k)])
      (fun (k, u) => Ctx (Rs f8 1 u.1 u.2 (le 2 ((rn p).length : Int) ++ bR ((rn p).take k)) :: Rs fR 2 r.1 r.2 (rn p) :: J) (pt b 232 (cC 3 s p) :: H)) (fun x => (rn p).length - x.1) (0, r0) (by dsimp only; omega) rfl (fun _ h => h) fun ⟨k, u⟩ hk => ?_
    dsimp only at hk
    refine go ?_
    have hq : (le 2 ((rn p).length : Int) ++ bR ((rn p).take k)).length ≤ 500 := by rw [List.length_append, bR_len, List.length_take, show (le 2 ((rn p).length : Int)).length = 2 from rfl]; omega
    refine br (fun h0k => ?_) fun h0k => ?_
    · have h : k < (rn p).length := by omega
      have hx1 := rn_at h
      intro b2
      refine cg (cA16 (n := ((rn p)[k].1 : Int)) (hb := by omega) (hn := by constructor <;> omega)) fun u1 _ => ?_
      refine fzc ?_
      have hq1 : (le 2 ((rn p).length : Int) ++ bR ((rn p).take k) ++ le 2 ((rn p)[k].1 : Int)).length ≤ 600 := by rw [List.length_append, show (le 2 ((rn p)[k].1 : Int)).length = 2 from rfl]; omega
      refine cg (cA16 (n := ((rn p)[k].2 : Int)) (hb := by omega) (hn := by constructor <;> omega)) fun u2 _ => ?_
      rw [List.append_assoc, List.append_assoc, ← bR_snoc, List.take_append_getElem h]
      refine fz ?_
      exact en (k + 1, u2) (by dsimp only; omega) rfl (fun w h => h.rest.ent fun w j => ⟨j.1, j.2.2.2⟩)
    · have e2 : k = (rn p).length := by omega
      subst e2
      rw [List.take_length]
      refine rv u trivial fun w h => ?_
      have h : Ctx (Rs f8 1 u.1 u.2 (le 2 ((rn p).length : Int) ++ bR ((rn p).take (rn p).length)) :: Rs fR 2 r.1 r.2 (rn p) :: J) (pt b 232 (cC 3 s p) :: H) w := h
      rw [List.take_length] at h
      exact h.rest.ent fun w j => ⟨j.1, j.2.2⟩
theorem bd_le (hp : P60 p) : (bd p).length ≤ 400 := by
  have h1 : (fl p 64).length ≤ 64 := fl_len
  have h2 := rn_len hp
  unfold bd
  split
  · rw [List.length_append, bR_len, show (le 2 ((rn p).length : Int)).length = 2 from rfl]; omega
  · rw [bA_len]; omega
theorem bd_B8 : B8 (bd p) := by
  unfold bd
  split
  · intro y hy
    rcases List.mem_append.1 hy with h | h
    · exact le_B8 _ _ y h
    · exact bR_B8 _ y h
  · exact bA_B8 _
theorem cBodyK (hk : cn p = k) (hp : P60 p) (hT : Ent J TabT) (hJ : Ent J (cF k s p)) : Tr TP 119 [.agg ⟨cC k s p⟩] (Ctx J H) (fun r : Q2 => .slice r.1 (bd p).length r.2) (fun _ => True) (fun r => Ctx (Rs f8 1 r.1 r.2 (bd p) :: J) H) := by
  subst hk; exact cBody hp hT hJ
end
end
end Go.Proofs.YtimemehaccgmmaaGreatDoor
namespace Go.Proofs.YtimemehaccgmmaaGreatDoor
open Go.RowKit
set_option maxRecDepth 100000
set_option linter.unusedVariables false
set_option linter.unusedSimpArgs false
noncomputable section
section
variable {J : List (World → Prop)} {H : List RC} {p q g : Nat → Bool} {x : SetD} {k : Nat} {s : Q2} {ad : Option Addr} {cap : Nat}
def hdA (m : Nat) : List Int := le 4 12346 ++ le 4 1 ++ le 2 0 ++ le 2 ((m - 1 : Nat) : Int) ++ le 4 16
def hdR (m : Nat) : List Int := le 2 12347 ++ le 2 0 ++ [1] ++ le 2 0 ++ le 2 ((m - 1 : Nat) : Int)
def sw {α : Type} (a b : α) : Nat → α
  | 0 => a
  | _ => b
/-- the image of a set -/
def img (p : Nat → Bool) : List Int := (if cn p = 3 then hdR (fl p 64).length else hdA (fl p 64).length) ++ bd p
set_option maxHeartbeats 4000000 in
theorem cWr1 (hn : cn p = 1) (hne : em p = false) (hp : P60 p) (hT : Ent J TabT) (hJ : Ent J (sF x p false)) : Tr TP 51 [pb x.b] (Ctx J H) (fun r : Q2 => .slice r.1 (img p).length r.2) (fun _ => True) (fun r => Ctx J (sl f8 1 5 r.1 r.2 (img p) :: H)) := by
  have h0 : 0 < (fl p 64).length := by
    unfold em at hne
    cases h : fl p 64 with
    | nil => rw [h] at hne; cases hne
    | cons a l => simp
  have hl : (fl p 64).length ≤ 64 := fl_len
  have hbl := bd_le hp
  have hc : Ent J (cF (cn p) x.c p) := sF_cF hJ
  refine en0 Tryz.func51 rfl rfl rfl (addJ hJ (addJ (R := TabT) (fun w j => hT w j.2) (addJ (fun w j => hc w j.2.2) (go ?_))))
  refine cg (cAll (p := p) jA) fun r _ => ?_
  rw [hn]
  refine ⟨fun _ => fz (go ?_), fun hh => absurd rfl hh⟩
  refine cg (cA32 (xs := []) (hJ := rNl)) fun r1 _ => ?_
  refine fzc ?_
  refine cg (cA32 (n := 1)) fun r2 _ => ?_
  refine fzc ?_
  refine cg (cKeys (x := x) (p := p) (e := false) jA) fun r3 _ => ?_
  refine fz ?_
  generalize eA : [] ++ le 4 12346 ++ le 4 1 = A
  have hAl : A.length = 8 := by rw [← eA]; rfl
  refine lp (X := Nat × Q2) (fun x => x.1 = 0 ∨ x.1 = 1) (fun (d, u) => [(3, .slice r.1 1 r.2), (4, .int .i64 0), (5, .int .i64 1), (6, .slice u.1 (sw A (A ++ le 2 0 ++ le 2 (((fl p 64).length - 1 : Nat) : Int)) d).length u.2), (66, .slice r3.1 1 r3.2), (67, .int .i64 1), (68, .int .i64 d)])
    (fun (d, u) => Ctx (Rs f8 1 u.1 u.2 (sw A (A ++ le 2 0 ++ le 2 (((fl p 64).length - 1 : Nat) : Int)) d) :: Rs fh 1 r3.1 r3.2 [0] :: Rs (fCt 1 p) 4 r.1 r.2 [x.c] :: cF 1 x.c p :: TabT :: J) H) (fun x => 1 - x.1) (0, r2) (.inl rfl) rfl (fun _ h => h.ent fun w j => ⟨j.2.1, j.1, j.2.2.2.1, j.2.2.2.2.1, j.2.2.2.2.2.1, j.2.2.2.2.2.2.2⟩) fun ⟨d, u⟩ hz => ?_
  dsimp only at hz
  rcases hz with rfl | rfl
  · refine go ?_
    refine cg (cA16 (xs := A) (n := 0)) fun u1 _ => ?_
    refine fzc ?_
    refine cg (cCLen (k := 1) (s := x.c) (p := p) (by omega) hp jA) fun _ _ => ?_
    rw [show ((fl p 64).length : Int) - 1 = (((fl p 64).length - 1 : Nat) : Int) by omega]
    refine cg (cA16 (xs := A ++ le 2 0) (hb := by rw [List.length_append, show (le 2 0).length = 2 from rfl]; omega)) fun u2 _ => ?_
    refine fz ?_
    exact en (1, u2) (by dsimp only; omega) rfl (fun w h => h.ent fun w j => ⟨j.1, j.2.2.2⟩)
  generalize eB : A ++ le 2 0 ++ le 2 (((fl p 64).length - 1 : Nat) : Int) = B
  have hBl : B.length = 12 := by rw [← eB, List.length_append, List.length_append, show (le 2 0).length = 2 from rfl, show (le 2 (((fl p 64).length - 1 : Nat) : Int)).length = 2 from rfl]; omega
  refine go ?_
  refine cg cHead1 fun _ _ => ?_
  refine lp (X := Nat × Q2) (fun x => x.1 = 0 ∨ x.1 = 1) (fun (d, v) => [(3, .slice r.1 1 r.2), (6, .slice v.1 (sw B (B ++ le 4 16) d).length v.2), (12, .int .i64 (sw 16 (IntKind.wrap .i64 (((16 : Nat) : Int) + (if 1 = 1 then 2 * ((fl p 64).length : Int) else 2 + 4 * ((rn p).length : Int)))) d)), (94, .slice r.1 1 r.2), (95, .int .i64 1), (96, .int .i64 d)])
    (fun (d, v) => match d with
      | 0 => Ctx (Rs f8 1 v.1 v.2 B :: Rs (fCt 1 p) 4 r.1 r.2 [x.c] :: cF 1 x.c p :: TabT :: J) H
      | _ => Ctx (Rs (fCt 1 p) 4 r.1 r.2 [x.c] :: cF 1 x.c p :: TabT :: J) (sl f8 1 5 v.1 v.2 (B ++ le 4 16) :: H)) (fun x => 1 - x.1) (0, u) (.inl rfl) rfl (fun _ h => h.ent fun w j => ⟨j.1, j.2.2⟩) fun ⟨d, v⟩ hz => ?_
  dsimp only at hz
  rcases hz with rfl | rfl
  · refine go ?_
    intro b2
    refine cg (cA32 (xs := B) (n := 16)) fun u2 _ => ?_
    refine cg (cCSize (k := 1) (s := x.c) (p := p) (.inl rfl) hp) fun _ _ => ?_
    exact en (1, u2) (by dsimp only; omega) rfl (fun w h => (h.drp 1).ent fun w j => j.2)
  generalize eD : B ++ le 4 16 = D
  have hDl : D.length = 16 := by rw [← eD, List.length_append, show (le 4 16).length = 4 from rfl]; omega
  refine go ?_
  refine lp (X := Nat × Q2) (fun x => x.1 = 0 ∨ x.1 = 1) (fun (d, y) => [(6, .slice y.1 (sw D (D ++ bd p) d).length y.2), (109, .slice r.1 1 r.2), (110, .int .i64 1), (111, .int .i64 d)])
    (fun (d, y) => Ctx (Rs (fCt 1 p) 4 r.1 r.2 [x.c] :: cF 1 x.c p :: TabT :: J) (sl f8 1 5 y.1 y.2 (sw D (D ++ bd p) d) :: H)) (fun x => 1 - x.1) (0, v) (.inl rfl) rfl (fun _ h => h) fun ⟨d, y⟩ hz => ?_
  dsimp only at hz
  rcases hz with rfl | rfl
  · refine go ?_
    intro b2
    refine cg (cBodyK (k := 1) (s := x.c) hn hp jA jA) fun u2 _ => ?_
    refine dr ?_
    refine apJ (xs := D) (ys := bd p) je0 (by omega) fun q3 => ?_
    refine go ?_
    exact en (1, q3) (by dsimp only; omega) rfl (fun w h => h.ent fun w j => j.2)
  refine go ?_
  have hi : img p = D ++ bd p := by
    unfold img
    rw [if_neg (by omega), ← eD, ← eB, ← eA]; rfl
  rw [hi]
  exact rv y trivial (fun w h => h.ent fun w j => j.2.2.2)
set_option maxHeartbeats 4000000 in
theorem cWr3 (hn : cn p = 3) (hne : em p = false) (hp : P60 p) (hT : Ent J TabT) (hJ : Ent J (sF x p false)) : Tr TP 51 [pb x.b] (Ctx J H) (fun r : Q2 => .slice r.1 (img p).length r.2) (fun _ => True) (fun r => Ctx J (sl f8 1 5 r.1 r.2 (img p) :: H)) := by
  have h0 : 0 < (fl p 64).length := by
    unfold em at hne
    cases h : fl p 64 with
    | nil => rw [h] at hne; cases hne
    | cons a l => simp
  have hl : (fl p 64).length ≤ 64 := fl_len
  have hbl := bd_le hp
  have hc : Ent J (cF (cn p) x.c p) := sF_cF hJ
  refine en0 Tryz.func51 rfl rfl rfl (addJ hJ (addJ (R := TabT) (fun w j => hT w j.2) (addJ (fun w j => hc w j.2.2) (go ?_))))
  refine cg (cAll (p := p) jA) fun r _ => ?_
  rw [hn]
  refine ⟨fun hh => absurd hh (by decide), fun _ => fz (go ?_)⟩
  refine cg (cA16 (xs := []) (hJ := rNl)) fun r1 _ => ?_
  refine fzc ?_
  refine cg (cA16 (n := 0)) fun r2 _ => ?_
  rw [show (((1 : Nat) : Int) + 7) / 8 = ((1 : Nat) : Int) by decide]
  refine mk f8 0 fun b => ?_
  refine go ?_
  generalize eA : [] ++ le 2 12347 ++ le 2 0 = A
  have hAl : A.length = 4 := by rw [← eA]; rfl
  refine lp (X := Nat) (fun x => x = 0 ∨ x = 1) (fun d => [(0, pb x.b), (3, .slice r.1 1 r.2), (4, .int .i64 1), (5, .int .i64 1), (6, .slice r2.1 A.length r2.2), (7, .slice (some ⟨b, 0, none⟩) 1 1), (41, .slice r.1 1 r.2), (42, .int .i64 1), (43, .int .i64 d)])
    (fun d => Ctx (Rs (fCt 3 p) 4 r.1 r.2 [x.c] :: cF 3 x.c p :: TabT :: sF x p false :: J) (sl f8 1 5 (some ⟨b, 0, none⟩) 1 (sw [0] [1] d) :: sl f8 1 5 r2.1 r2.2 A :: H)) (fun x => 1 - x) 0 (.inl rfl) rfl (fun _ h => h.ent fun w j => j.2) fun d hz => ?_
  rcases hz with rfl | rfl
  · refine go ?_
    intro b2
    refine cg (cKind (k := 3) (s := x.c) (p := p) (by omega)) fun _ _ => ?_
    rw [show ((0 : Nat) : Int) / 8 = ((0 : Nat) : Int) by decide, show IntKind.wrap .u8 (1 * 2 ^ min (0 % Int.natAbs 8) (IntKind.bits .u8)) = 1 by decide, show sw ([0] : List Int) [1] 0 = [0] from rfl]
    refine go ?_
    exact en 1 (by omega) rfl (fun w h => h.rest)
  refine go ?_
  refine fz ?_
  refine apJ (xs := A) (ys := [1]) je0 (by simp; omega) fun u => ?_
  refine go ?_
  refine fzc ?_
  refine cg (cKeys (x := x) (p := p) (e := false) jA) fun r3 _ => ?_
  refine fz ?_
  generalize eE : A ++ [1] = E
  have hEl : E.length = 5 := by rw [← eE]; simp; omega
  refine lp (X := Nat × Q2) (fun x => x.1 = 0 ∨ x.1 = 1) (fun (d, v) => [(3, .slice r.1 1 r.2), (4, .int .i64 1), (5, .int .i64 1), (6, .slice v.1 (sw E (E ++ le 2 0 ++ le 2 (((fl p 64).length - 1 : Nat) : Int)) d).length v.2), (66, .slice r3.1 1 r3.2), (67, .int .i64 1), (68, .int .i64 d)])
    (fun (d, v) => match d with
      | 0 => Ctx (Rs f8 1 v.1 v.2 E :: Rs fh 1 r3.1 r3.2 [0] :: Rs (fCt 3 p) 4 r.1 r.2 [x.c] :: cF 3 x.c p :: TabT :: J) H
      | _ => Ctx (Rs (fCt 3 p) 4 r.1 r.2 [x.c] :: cF 3 x.c p :: TabT :: J) (sl f8 1 5 v.1 v.2 (E ++ le 2 0 ++ le 2 (((fl p 64).length - 1 : Nat) : Int)) :: H)) (fun x => 1 - x.1) (0, u) (.inl rfl) rfl (fun _ h => h.ent fun w j => ⟨j.2.1, j.1, j.2.2.2.1, j.2.2.2.2.1, j.2.2.2.2.2.1, j.2.2.2.2.2.2.2⟩) fun ⟨d, v⟩ hz => ?_
  dsimp only at hz
  rcases hz with rfl | rfl
  · refine go ?_
    refine cg (cA16 (xs := E) (n := 0)) fun u1 _ => ?_
    refine fzc ?_
    refine cg (cCLen (k := 3) (s := x.c) (p := p) (by omega) hp jA) fun _ _ => ?_
    rw [show ((fl p 64).length : Int) - 1 = (((fl p 64).length - 1 : Nat) : Int) by omega]
    refine cg (cA16 (xs := E ++ le 2 0) (hb := by rw [List.length_append, show (le 2 0).length = 2 from rfl]; omega)) fun u2 _ => ?_
    exact en (1, u2) (by dsimp only; omega) rfl (fun w h => h.ent fun w j => j.2.2.2)
  generalize eB : E ++ le 2 0 ++ le 2 (((fl p 64).length - 1 : Nat) : Int) = B
  have hBl : B.length = 9 := by rw [← eB, List.length_append, List.length_append, show (le 2 0).length = 2 from rfl, show (le 2 (((fl p 64).length - 1 : Nat) : Int)).length = 2 from rfl]; omega
  refine go ?_
  refine lp (X := Nat × Q2) (fun x => x.1 = 0 ∨ x.1 = 1) (fun (d, y) => [(6, .slice y.1 (sw B (B ++ bd p) d).length y.2), (109, .slice r.1 1 r.2), (110, .int .i64 1), (111, .int .i64 d)])
    (fun (d, y) => Ctx (Rs (fCt 3 p) 4 r.1 r.2 [x.c] :: cF 3 x.c p :: TabT :: J) (sl f8 1 5 y.1 y.2 (sw B (B ++ bd p) d) :: H)) (fun x => 1 - x.1) (0, v) (.inl rfl) rfl (fun _ h => h) fun ⟨d, y⟩ hz => ?_
  dsimp only at hz
  rcases hz with rfl | rfl
  · refine go ?_
    intro b2
    refine cg (cBodyK (k := 3) (s := x.c) hn hp jA jA) fun u2 _ => ?_
    refine dr ?_
    refine apJ (xs := B) (ys := bd p) je0 (by omega) fun q3 => ?_
    refine go ?_
    exact en (1, q3) (by dsimp only; omega) rfl (fun w h => h.ent fun w j => j.2)
  refine go ?_
  have hi : img p = B ++ bd p := by
    unfold img
    rw [if_pos hn, ← eB, ← eE, ← eA]; rfl
  rw [hi]
  exact rv y trivial (fun w h => h.ent fun w j => j.2.2.2)
theorem cWr (hne : em p = false) (hp : P60 p) (hT : Ent J TabT) (hJ : Ent J (sF x p false)) : Tr TP 51 [pb x.b] (Ctx J H) (fun r : Q2 => .slice r.1 (img p).length r.2) (fun _ => True) (fun r => Ctx J (sl f8 1 5 r.1 r.2 (img p) :: H)) := by
  rcases (cn_le p).2 with h | h
  · exact cWr1 h hne hp hT hJ
  · exact cWr3 h hne hp hT hJ
theorem img_len (hp : P60 p) : (img p).length ≤ 416 := by
  have hbl := bd_le hp
  unfold img
  rw [List.length_append]
  split
  · rw [show (hdR (fl p 64).length).length = 9 from rfl]; omega
  · rw [show (hdA (fl p 64).length).length = 16 from rfl]; omega
theorem img_B8 : B8 (img p) := by
  unfold img
  intro y hy
  rcases List.mem_append.1 hy with h | h
  · split at h
    · simp only [hdR, List.mem_append] at h
      rcases h with (((h | h) | h) | h) | h
      · exact le_B8 _ _ y h
      · exact le_B8 _ _ y h
      · simp at h; subst h; decide
      · exact le_B8 _ _ y h
      · exact le_B8 _ _ y h
    · simp only [hdA, List.mem_append] at h
      rcases h with (((h | h) | h) | h) | h <;> exact le_B8 _ _ y h
  · exact bd_B8 y h
end
end
end Go.Proofs.YtimemehaccgmmaaGreatDoor
namespace Go.Proofs.YtimemehaccgmmaaGreatDoor
open Go.RowKit
set_option maxRecDepth 100000
set_option linter.unusedVariables false
set_option linter.unusedSimpArgs false
noncomputable section
section
variable {J : List (World → Prop)} {H : List RC} {p : Nat → Bool} {x : SetD} {k : Nat} {s q : Q2} {ad : Option Addr} {cap b c i : Nat} {xs : List Int}
/-- the reader of an image: all well so far -/
abbrev prd (b c : Nat) : RC := pt b 338 [pb c, .int .i64 0]
theorem cRHs {n : Int} (hn : i + n ≤ xs.length) (hi : i ≤ xs.length) (hb : xs.length ≤ 100000000) : Tr TP 229 [pb b, .int .i64 n] (Ctx J (prd b c :: rdr c q xs i :: H)) (fun _ : Unit => .bool true) (fun _ => True) (fun _ => Ctx J (prd b c :: rdr c q xs i :: H)) := by
  refine en0 Tryz.func229 rfl rfl rfl (go ?_)
  refine frc 1 rfl ?_
  refine cg (cLeft (hi := hi) (hb := hb)) fun _ _ => ?_
  refine fr 1 rfl ?_
  exact rv () trivial (fun _ h => h)
theorem cRHs2 {m : Nat} (hn : i + m ≤ xs.length) (hb : xs.length ≤ 100000000) : Tr TP 229 [pb b, .int .i64 (m : Nat)] (Ctx J (prd b c :: rdr c q xs i :: H)) (fun _ : Unit => .bool true) (fun _ => True) (fun _ => Ctx J (prd b c :: rdr c q xs i :: H)) := cRHs (by omega) (by omega) hb
theorem cChkP : Tr TP 230 [pb b, .bool true] (Ctx J (prd b c :: H)) (fun _ : Unit => .bool true) (fun _ => True) (fun _ => Ctx J (prd b c :: H)) := by
  refine en0 Tryz.func230 rfl rfl rfl (go ?_)
  exact rv () trivial (fun _ h => h)
theorem gU32 {v : Int} (hv : sub xs i (i + 4) = le 4 v) (hr : 0 ≤ v ∧ v < 256 ^ 4) (hi : i + 4 ≤ xs.length) (hb : xs.length ≤ 100000000) (h8 : B8 xs) (hJ : Ent J (Rs f8 1 q.1 q.2 xs) := by exact jA) :
    Tr TP 93 [pb c] (Ctx J (rdr c q xs i :: H)) (fun _ : Unit => .int .u32 v) (fun _ => True) (fun _ => Ctx J (rdr c q xs (i + 4) :: H)) := by
  have h := @cU32 J H c q xs i hJ hi hb h8
  rw [hv, un_le 4 v hr] at h; exact h
theorem gU16 {v : Int} (hv : sub xs i (i + 2) = le 2 v) (hr : 0 ≤ v ∧ v < 256 ^ 2) (hi : i + 2 ≤ xs.length) (hb : xs.length ≤ 100000000) (h8 : B8 xs) (hJ : Ent J (Rs f8 1 q.1 q.2 xs) := by exact jA) :
    Tr TP 224 [pb c] (Ctx J (rdr c q xs i :: H)) (fun _ : Unit => .int .u16 v) (fun _ => True) (fun _ => Ctx J (rdr c q xs (i + 2) :: H)) := by
  have h := @cU16 J H c q xs i hJ hi hb h8
  rw [hv, un_le 2 v hr] at h; exact h
set_option maxHeartbeats 4000000 in
theorem cCookA (h8 : B8 xs) (hb : xs.length ≤ 100000000) (hl : 8 ≤ xs.length) (h1 : sub xs 0 4 = le 4 12346) (h2 : sub xs 4 8 = le 4 1) (hJ : Ent J (Rs f8 1 q.1 q.2 xs) := by exact jA) :
    Tr TP 228 [pb b] (Ctx J (prd b c :: rdr c q xs 0 :: H)) (fun z : Nat => .tuple #[.int .i64 1, .slice (some ⟨z, 0, none⟩) 1 1, .bool true]) (fun _ => True) (fun z => Ctx J (sl f8 1 5 (some ⟨z, 0, none⟩) 1 [0] :: prd b c :: rdr c q xs 8 :: H)) := by
  refine en0 Tryz.func228 rfl rfl rfl (go ?_)
  refine cg (cRHs2 (m := 4) (by omega) hb) fun _ _ => ?_
  refine frc 1 rfl ?_
  refine cg (gU32 h1 (by decide) (by omega) hb h8) fun _ _ => ?_
  refine frc 1 rfl ?_
  refine cg (cRHs2 (m := 4) (by omega) hb) fun _ _ => ?_
  refine frc 1 rfl ?_
  refine cg (gU32 h2 (by decide) (by omega) hb h8) fun _ _ => ?_
  refine frc 1 rfl ?_
  refine cg cChkP fun _ _ => ?_
  rw [show (if (65536 : Int) < 1 then (65536 : Int) else 1) + 7 = ((8 : Nat) : Int) by decide]
  refine kq (kB 8) rfl (qN (qQuo rfl rfl (by decide) (y := ((1 : Nat) : Int)) (by decide)) (fun _ _ => trivial) rfl rfl rfl (dA rfl ?_))
  refine dm1 f8 0 (fun z => ?_)
  refine go ?_
  exact rv z trivial (fun _ h => h)
set_option maxHeartbeats 4000000 in
theorem cCookR (h8 : B8 xs) (hb : xs.length ≤ 100000000) (hl : 5 ≤ xs.length) (h1 : sub xs 0 4 = le 4 12347) (h2 : sub xs 4 5 = [1]) (hJ : Ent J (Rs f8 1 q.1 q.2 xs) := by exact jA) :
    Tr TP 228 [pb b] (Ctx J (prd b c :: rdr c q xs 0 :: H)) (fun z : Q2 => .tuple #[.int .i64 1, .slice z.1 1 z.2, .bool false]) (fun _ => True) (fun z => Ctx (Rs f8 1 z.1 z.2 [1] :: J) (prd b c :: rdr c q xs 5 :: H)) := by
  refine en0 Tryz.func228 rfl rfl rfl (go ?_)
  refine cg (cRHs2 (m := 4) (by omega) hb) fun _ _ => ?_
  refine frc 1 rfl ?_
  refine cg (gU32 h1 (by decide) (by omega) hb h8) fun _ _ => ?_
  rw [show IntKind.wrap .u32 ((BitVec.ofInt (IntKind.bits .u32) 12347 &&& BitVec.ofInt (IntKind.bits .u32) 65535).toNat : Int) = 12347 by decide]
  refine frc 1 rfl ?_
  refine cg cChkP fun _ _ => ?_
  rw [show ((12347 : Int) / 2 ^ min 16 (IntKind.bits .u32) % 18446744073709551616 + 1) % 18446744073709551616 = 1 by decide, show ((1 : Int) + 7) % 18446744073709551616 / 8 = ((1 : Nat) : Int) by decide]
  refine cg (cRHs2 (m := 1) (by omega) hb) fun _ _ => ?_
  rw [show ((1 : Int) + 7) / 8 = ((1 : Nat) : Int) by decide]
  refine frc 1 rfl ?_
  refine cg (cBytes (hi := by omega) (hb := hb)) fun z _ => ?_
  rw [show sub xs (0 + 4) (0 + 4 + 1) = [1] from h2]
  rw [show (1 : Int) / 8 = ((0 : Nat) : Int) by decide]
  refine ⟨fun hh => absurd hh (by decide), fun _ => fz (go ?_)⟩
  rw [show decide ((([1] : List Int)[0]'(by decide)) / 2 ^ min (1 % Int.natAbs 8) (IntKind.bits .u8) = 0) = true by decide]
  refine frc 1 rfl ?_
  refine cg cChkP fun _ _ => ?_
  exact rv z trivial (fun _ h => h)
end
end
end Go.Proofs.YtimemehaccgmmaaGreatDoor
namespace Go.Proofs.YtimemehaccgmmaaGreatDoor
open Go.RowKit
set_option maxRecDepth 100000
set_option linter.unusedVariables false
set_option linter.unusedSimpArgs false
noncomputable section
/-- Least and greatest. -/
def mnF (a b : Int) : Int := if b < a then b else a
def mxF (a b : Int) : Int := if a < b then b else a
def mnL (l : List Int) : Int := l.foldl mnF 9223372036854775807
def mxL (l : List Int) : Int := l.foldl mxF (-9223372036854775808)
/-- A column of numbers. -/
def Met (x : Nat × Q2) (l : List Int) : List (World → Prop) :=
  [(pt x.1 245 [.slice x.2.1 l.length x.2.2, .int .i64 (mnL l), .int .i64 (mxL l), .bool true]).A, Rs fi 1 x.2.1 x.2.2 l]
section
variable {J : List (World → Prop)} {H : List RC} {x : Nat × Q2} {l : List Int}
theorem cMOf {ad : Option Addr} {cap : Nat} (hJ : Ent J (Rs fi 1 ad cap l) := by exact jA) (hb : l.length ≤ 1000 := by omega) :
    Tr TP 68 [.slice ad l.length cap] (Ctx J H) (fun x : Nat × Q2 => .tuple #[pb x.1, .int .i64 0]) (fun _ => True) (fun x => Ctx (Bn (Met x l) :: J) H) := by
  refine en0 Tryz.func68 rfl rfl rfl (addJ hJ (go ?_))
  refine mk fi 0 fun b => ?_
  refine go ?_
  intro c
  refine fr 1 rfl ?_
  refine go ?_
  refine cpJ (ys := l) jA ?_
  refine go ?_
  refine lp (X := Nat) (fun k => k ≤ l.length) (fun k => [(4, pb c), (21, .slice ad l.length cap), (22, .int .i64 l.length), (23, .int .i64 k)]) (fun k => Ctx (Rs fi 1 ad cap l :: J) (sl fi 1 2 (some ⟨b, 0, none⟩) l.length l :: pt c 245 [.slice (some ⟨b, 0, none⟩) l.length l.length, .int .i64 ((l.take k).foldl mnF 9223372036854775807), .int .i64 ((l.take k).foldl mxF (-9223372036854775808)), .bool true] :: H)) (fun k => l.length - k) 0 (by simp) rfl (fun _ h => h) fun k hk => ?_
  refine go ?_
  refine br (fun h => ?_) fun h => ?_
  · have hl : k < l.length := by omega
    refine en (k + 1) (by omega) rfl (fun _ h => ?_)
    simp only [List.take_succ_eq_append_getElem hl, List.foldl_append, List.foldl_cons, List.foldl_nil]
    exact h
  · obtain rfl : k = l.length := by omega
    refine fz (fzp ?_)
    exact rt (c, (some ⟨b, 0, none⟩, l.length)) trivial rfl (fun _ h => h.ent fun _ j => ⟨⟨by have := j.1; rw [List.take_length] at this; exact this, j.2.1, trivial⟩, j.2.2.2⟩)
theorem cMNone (hJ : Ent J (Bn (Met x l)) := by exact jA) : Tr TP 132 [pb x.1] (Ctx J H) (fun _ : Unit => .bool false) (fun _ => True) (fun _ => Ctx J H) := by
  refine en0 Tryz.func132 rfl rfl rfl (addS2 hJ ?_)
  refine go ?_
  exact rt () trivial rfl (fun _ h => h.ent fun _ j => j.2.2.2)
theorem cMGet {i : Nat} (hi : i < l.length := by omega) (hJ : Ent J (Bn (Met x l)) := by exact jA) (hb : l.length ≤ 1000 := by omega) : Tr TP 182 [pb x.1, .int .i64 i] (Ctx J H) (fun _ : Unit => .tuple #[.int .i64 l[i], .int .i64 0]) (fun _ => True) (fun _ => Ctx J H) := by
  refine en0 Tryz.func182 rfl rfl rfl (addS2 hJ ?_)
  refine go ?_
  refine cg cMNone fun _ _ => ?_
  exact rt () trivial rfl (fun _ h => h.ent fun _ j => j.2.2.2)
theorem cMSome (hJ : Ent J (Bn (Met x l)) := by exact jA) (hb : l.length ≤ 1000 := by omega) : Tr TP 103 [pb x.1, .int .i64 0, .int .i64 l.length] (Ctx J H) (fun q : Q2 => .tuple #[.slice q.1 l.length q.2, .int .i64 0]) (fun _ => True) (fun q => Ctx J (sl fi 1 2 q.1 q.2 l :: H)) := by
  refine en0 Tryz.func103 rfl rfl rfl (addS2 hJ ?_)
  refine go ?_
  refine cg cMNone fun _ _ => ?_
  rw [Int.sub_zero]
  refine mk fi 0 fun b => ?_
  refine go ?_
  refine sc 0 l.length je1 fun q => ?_
  rw [sub_all]
  refine go ?_
  refine cpJ (ys := l) jA ?_
  refine go ?_
  exact rt (some ⟨b, 0, none⟩, l.length) trivial rfl (fun _ h => h.ent fun _ j => j.2.2.2.2)
def metB (l : List Int) : List Int := (le 4 l.length ++ le 8 (u64 (mnL l)) ++ le 8 (u64 (mxL l))) ++ l.flatMap fun n => le 8 (u64 n)
theorem cMPut {ad : Option Addr} {cap : Nat} {xs : List Int} {c m : Nat} {n : Int} (hb : xs.length ≤ 100000000 := by first | omega | (simp <;> omega)) (hm : Nat.ble m 8 = true := by rfl) :
    Tr TP 133 [.int .u64 n, .int .i64 m, pb c] (Ctx J (sl f8 1 5 ad cap xs :: pt c 32 [.slice ad xs.length cap] :: H)) (fun _ : Q2 => .tuple #[]) (fun _ => True) (fun q => Ctx J (sl f8 1 5 q.1 q.2 (xs ++ le m n) :: pt c 32 [.slice q.1 (xs ++ le m n).length q.2] :: H)) := by
  have hm := Nat.le_of_ble_eq_true hm
  refine en0 Tryz.func133 rfl rfl rfl (go ?_)
  refine lp (X := Nat × Q2) (fun x => x.1 ≤ m) (fun (k, q) => [(0, .int .u64 (n / 256 ^ k)), (2, pb c), (5, .int .i64 m), (6, .int .i64 k)]) (fun (k, q) => Ctx J (sl f8 1 5 q.1 q.2 (xs ++ le k n) :: pt c 32 [.slice q.1 (xs ++ le k n).length q.2] :: H)) (fun x => m - x.1) (0, (ad, cap)) (by simp) (by simp) (by simp [le]) fun ⟨k, q⟩ hk => ?_
  dsimp only at hk
  refine go ?_
  refine br (fun h b q => ?_) fun h => ?_
  · exact en (k + 1, q) (by dsimp only; omega) (by simp [shr8]) (fun _ h => by simpa [le_succ] using h)
  · obtain rfl : k = m := by omega
    exact rtE q trivial rfl (fun _ h => h)
end
end
end Go.Proofs.YtimemehaccgmmaaGreatDoor
