/-
  Parts of the walks and their plain laws (X4 X5 X6 X7 X8). No condition.
-/
import Derived.Test.YtimemehaccgmmaaGreatDoorM43
import Derived.Test.YtimemehaccgmmaaGreatDoorM10
import Derived.Test.YtimemehaccgmmaaGreatDoorM25
namespace Go.Proofs.YtimemehaccgmmaaGreatDoor
open Go.RowKit
set_option maxRecDepth 100000
set_option linter.unusedVariables false
set_option linter.unusedSimpArgs false
noncomputable section
section
variable {J : List (World → Prop)} {H : List RC} {b : Nat} {q : Q2} {xs A B : List Int} {i m o : Nat} {p : Nat → Bool} {l : List Nat}
set_option maxHeartbeats 4000000 in
theorem cHeadA9 {l : List Nat} (hx0 : xs = A ++ (w2 ([12346, 0, 1, 0] ++ l) ++ B)) (ho : o = A.length) (hb : xs.length ≤ 100000000) (hJ : Ent J (Rs f8 1 q.1 q.2 xs) := by exact jA) :
    Tr TP 107 [pb b] (Ctx J (mo b q xs o :: H)) (fun z : Q2 => .tuple #[.int .i64 1, .slice z.1 1 z.2, .bool true, .int .i64 0]) (fun _ => True) (fun z => Ctx J (sl fB 1 4 z.1 z.2 [false] :: mo b q xs (o + 8) :: H)) := by
  obtain ⟨s0, -⟩ := w2_at hx0 (i := 0) (j := o) (by simp) (by omega)
  obtain ⟨s1, -⟩ := w2_at hx0 (i := 1) (j := o + 2) (by simp) (by omega)
  obtain ⟨s2, -⟩ := w2_at hx0 (i := 2) (j := o + 4) (by simp) (by omega)
  obtain ⟨s3, hl⟩ := w2_at hx0 (i := 3) (j := o + 6) (by simp) (by omega)
  refine en0 Tryz.func107 rfl rfl rfl (go ?_)
  refine ca (cTwo9 (v := 12346) s0 (by omega) (by omega) hb hJ) fun _ _ => ?_
  refine go ?_
  refine ca (cTwo9 (i := o + 2) (v := 0) s1 (by omega) (by omega) hb hJ) fun _ _ => ?_
  refine go ?_
  refine ca (cFour9 (i := o + 4) (v := 1) (w := 0) s2 s3 (by omega) (by omega) (by omega) hb hJ) fun _ _ => ?_
  refine go ?_
  refine dm1 fB false (fun z => ?_)
  refine go ?_
  exact rt4 (X := Q2) (some ⟨z, 0, none⟩, 1) trivial (fun _ h => h)
theorem bitv {i : Nat} (h8 : i < 8) (h : i / 8 < [(1 : Int)].length) : ([(1 : Int)])[i / 8] / 2 ^ min (i % Int.natAbs 8) (IntKind.bits .u8) = if i = 0 then 1 else 0 := by
  rcases (by omega : i = 0 ∨ i = 1 ∨ i = 2 ∨ i = 3 ∨ i = 4 ∨ i = 5 ∨ i = 6 ∨ i = 7) with rfl | rfl | rfl | rfl | rfl | rfl | rfl | rfl <;> rfl
set_option maxHeartbeats 4000000 in
theorem cHeadR9 {l : List Nat} (hx0 : xs = A ++ (w2 [12347, 0] ++ ([1] ++ B))) (ho : o = A.length) (hb : xs.length ≤ 100000000) (hJ : Ent J (Rs f8 1 q.1 q.2 xs) := by exact jA) :
    Tr TP 107 [pb b] (Ctx J (mo b q xs o :: H)) (fun z : Q2 => .tuple #[.int .i64 1, .slice z.1 1 z.2, .bool false, .int .i64 0]) (fun _ => True) (fun z => Ctx J (sl fB 1 4 z.1 z.2 [true] :: mo b q xs (o + 5) :: H)) := by
  obtain ⟨s0, -⟩ := w2_at hx0 (i := 0) (j := o) (by simp) (by omega)
  obtain ⟨s1, hl1⟩ := w2_at hx0 (i := 1) (j := o + 2) (by simp) (by omega)
  have hx2 : xs = (A ++ w2 [12347, 0]) ++ ([1] ++ B) := by rw [hx0]; simp
  have s2 : sub xs (o + 4) (o + 5) = [1] := sub_at _ _ _ hx2 (by rw [List.length_append, w2_len, ho]; rfl) (by rw [List.length_append, w2_len, ho]; rfl)
  have hl : o + 5 ≤ xs.length := by
    have := congrArg List.length hx2
    simp only [List.length_append, w2_len, List.length_cons, List.length_nil] at this
    omega
  refine en0 Tryz.func107 rfl rfl rfl (go ?_)
  refine ca (cTwo9 (v := 12347) s0 (by omega) (by omega) hb hJ) fun _ _ => ?_
  refine go ?_
  refine ca (cTwo9 (i := o + 2) (v := 0) s1 (by omega) (by omega) hb hJ) fun _ _ => ?_
  refine go ?_
  rw [show (((0 : Nat) : Int) + 1 + 7) / 8 = ((1 : Nat) : Int) by decide]
  refine ca (cTake9 (i := o + 4) (m := 1) (by omega) hb hJ) fun s _ => ?_
  rw [show o + 4 + 1 = o + 5 from rfl, s2]
  refine go ?_
  refine pre (fun w h => Ctx.nl (f := fB) (sz := 1) (e := 4) h) ?_
  refine lp (X := Nat × Q2) (fun y => y.1 ≤ 8) (fun (i, z) => [(0, pb b), (9, .int .i64 1), (10, .slice s.1 1 s.2), (11, .slice z.1 (if i = 0 then ([] : List Bool) else [true]).length z.2), (12, .int .i64 i)])
    (fun (i, z) => Ctx (Rs f8 1 s.1 s.2 [1] :: J) (sl fB 1 4 z.1 z.2 (if i = 0 then ([] : List Bool) else [true]) :: mo b q xs (o + 5) :: H)) (fun y => 8 - y.1) (0, (none, 0)) (Nat.zero_le _) rfl (fun _ h => h) fun (i, z) hi => ?_
  dsimp only at hi ⊢
  refine go ?_
  refine ⟨fun h1 => ?_, fun h1 => ?_⟩
  · have h8 : i < 8 := by omega
    refine go ?_
    rw [bitv h8]
    by_cases h0 : i = 0
    · subst h0
      rw [if_pos rfl, if_pos rfl]
      refine go ?_
      intro bb q2
      exact en (1, q2) ⟨by dsimp only; omega, by dsimp only; omega⟩ rfl (fun _ h => h)
    · rw [if_neg h0, if_neg h0]
      refine go ?_
      exact en (i + 1, z) ⟨by dsimp only; omega, by dsimp only; omega⟩ (by simp [h0]) (fun w h => by dsimp only; rw [if_neg (by omega)]; exact h)
  · obtain rfl : i = 8 := by omega
    refine go ?_
    exact rt4 z trivial (fun _ h => h.ent fun _ j => j.2)
set_option maxHeartbeats 8000000 in
theorem cOneA9 (hn : ∀ i (h : i < (fl p 64).length), sub xs (o + 2 * i) (o + 2 * i + 2) = le 2 (((fl p 64)[i] : Nat) : Int)) (hl : o + 2 * (fl p 64).length ≤ xs.length) (hb : xs.length ≤ 100000000) (hJ : Ent J (Rs f8 1 q.1 q.2 xs) := by exact jA) :
    Tr TP 110 [pb b, .int .i64 (fl p 64).length, .bool false] (Ctx J (mo b q xs o :: H)) (fun z : Q2 => .tuple #[.slice z.1 (fl p 64).length z.2, .int .i64 0]) (fun _ => True) (fun z => Ctx (Rs fh 1 z.1 z.2 (fl p 64) :: J) (mo b q xs (o + 2 * (fl p 64).length) :: H)) := by
  have hl64 := fl_len (g := p) (n := 64)
  refine en0 Tryz.func110 rfl rfl rfl (go ?_)
  refine pre (fun w h => Ctx.nl (f := fh) (sz := 1) (e := 152) h) ?_
  refine lp (X := Nat × Q2) (fun y => y.1 ≤ (fl p 64).length) (fun (i, z) => [(0, pb b), (1, .int .i64 (fl p 64).length), (8, .slice z.1 ((fl p 64).take i).length z.2), (13, .int .i64 i)])
    (fun (i, z) => Ctx J (sl fh 1 152 z.1 z.2 ((fl p 64).take i) :: mo b q xs (o + 2 * i) :: H)) (fun y => (fl p 64).length - y.1) (0, (none, 0)) (Nat.zero_le _) rfl (fun _ h => h) fun (i, z) hi => ?_
  dsimp only at hi ⊢
  refine go ?_
  refine ⟨fun h1 => ?_, fun h1 => ?_⟩
  · have hi1 : i < (fl p 64).length := by omega
    have hv := (mem_fl.1 (List.getElem_mem hi1)).1
    have htl : ((fl p 64).take i).length = i := by rw [List.length_take]; omega
    have e1 : (fl p 64).take (i + 1) = (fl p 64).take i ++ [(fl p 64)[i]] := List.take_succ_eq_append_getElem hi1
    refine go ?_
    refine frc 1 rfl ?_
    refine ca (cTwo9 (i := o + 2 * i) (hn i hi1) (by omega) (by omega) hb hJ) fun _ _ => ?_
    refine fr 1 rfl ?_
    refine go ?_
    intro bb q2
    exact en (i + 1, q2) ⟨by dsimp only; omega, by dsimp only; omega⟩ (by dsimp only; rw [e1]; simp) (fun w h => by dsimp only; rw [e1]; exact h)
  · obtain rfl : i = (fl p 64).length := by omega
    rw [List.take_length]
    refine fz (go ?_)
    refine ca (cAMay4 (by exact fun w j => j.1)) fun _ _ => ?_
    refine go ?_
    exact rt z trivial rfl (fun _ h => h)
theorem marks_fl {g : Nat → Bool} {N : Nat} (hN : N = 65536) (hp : P60 p) (hg : ∀ j, g j = true ↔ ∃ m, ∃ h : m < (rn p).length, (rn p)[m].1 ≤ j ∧ j ≤ (rn p)[m].1 + (rn p)[m].2) : fl g N = fl p 64 := by
  have h1 : ∀ j, g j = true ↔ j < 64 ∧ p j = true := fun j => by
    rw [hg j, ← mem_fl (n := 64), ← rn_fl hp, List.mem_flatMap]
    constructor
    · rintro ⟨m, h, h2, h3⟩
      exact ⟨_, List.getElem_mem h, by unfold rng; rw [List.mem_range'_1]; omega⟩
    · rintro ⟨x, hx, h2⟩
      obtain ⟨m, h, rfl⟩ := List.getElem_of_mem hx
      unfold rng at h2
      rw [List.mem_range'_1] at h2
      exact ⟨m, h, by omega, by omega⟩
  have h2 : ∀ j, 64 ≤ j → g j = false := fun j hj => by
    cases e : g j with
    | false => rfl
    | true => have := (h1 j).1 e; omega
  rw [fl_same (n := 64) (by omega) (fun y hy _ => h2 y hy)]
  refine fl_congr fun y hy => ?_
  cases e : p y with
  | true => exact (h1 y).2 ⟨hy, e⟩
  | false =>
    cases e2 : g y with
    | false => rfl
    | true => have := ((h1 y).1 e2).2; rw [e] at this; cases this
set_option maxHeartbeats 8000000 in
theorem cOneR9 (hp : P60 p) (hne : em p = false) (hk : sub xs o (o + 2) = le 2 ((rn p).length : Int)) (hr : ∀ i (h : i < (rn p).length), sub xs (o + 2 + 4 * i) (o + 2 + 4 * i + 2) = le 2 (((rn p)[i].1 : Nat) : Int) ∧ sub xs (o + 2 + 4 * i + 2) (o + 2 + 4 * i + 4) = le 2 (((rn p)[i].2 : Nat) : Int)) (hl : o + 2 + 4 * (rn p).length ≤ xs.length) (hb : xs.length ≤ 100000000) (hJ : Ent J (Rs f8 1 q.1 q.2 xs) := by exact jA) :
    Tr TP 110 [pb b, .int .i64 (fl p 64).length, .bool true] (Ctx J (mo b q xs o :: H)) (fun z : Q2 => .tuple #[.slice z.1 (fl p 64).length z.2, .int .i64 0]) (fun _ => True) (fun z => Ctx (Rs fh 1 z.1 z.2 (fl p 64) :: J) (mo b q xs (o + 2 + 4 * (rn p).length) :: H)) := by
  have hl64 := fl_len (g := p) (n := 64)
  have hrl := rn_len hp
  have hrp := rn_pos hp hne
  refine en0 Tryz.func110 rfl rfl rfl (go ?_)
  refine ca (cTwo9 (i := o) hk (by omega) (by omega) hb hJ) fun _ _ => ?_
  refine go ?_
  refine pre (fun w h => Ctx.nl (f := fR) (sz := 2) (e := 297) h) ?_
  refine lp (X := Nat × Q2) (fun y => y.1 ≤ (rn p).length) (fun (i, z) => [(0, pb b), (1, .int .i64 (fl p 64).length), (9, .int .i64 (rn p).length), (10, .slice z.1 ((rn p).take i).length z.2), (11, .int .i64 i)])
    (fun (i, z) => Ctx J (sl fR 2 297 z.1 z.2 ((rn p).take i) :: mo b q xs (o + 2 + 4 * i) :: H)) (fun y => (rn p).length - y.1) (0, (none, 0)) (Nat.zero_le _) rfl (fun _ h => h) fun (i, z) hi => ?_
  dsimp only at hi ⊢
  refine go ?_
  refine ⟨fun h1 => ?_, fun h1 => ?_⟩
  · have hi1 : i < (rn p).length := by omega
    have hv := rn_at hi1
    have htl : ((rn p).take i).length = i := by rw [List.length_take]; omega
    have e1 : (rn p).take (i + 1) = (rn p).take i ++ [(rn p)[i]] := List.take_succ_eq_append_getElem hi1
    refine go ?_
    refine frc 1 rfl ?_
    refine ca (cTwo9 (i := o + 2 + 4 * i) (hr i hi1).1 (by omega) (by omega) hb hJ) fun _ _ => ?_
    refine go ?_
    refine ca (cTwo9 (i := o + 2 + 4 * i + 2) (hr i hi1).2 (by omega) (by omega) hb hJ) fun _ _ => ?_
    refine fr 1 rfl ?_
    refine go ?_
    intro bb q2
    exact en (i + 1, q2) ⟨by dsimp only; omega, by dsimp only; omega⟩ (by dsimp only; rw [e1]; simp) (fun w h => by dsimp only; rw [e1]; exact h)
  · obtain rfl : i = (rn p).length := by omega
    rw [List.take_length]
    refine fz (go ?_)
    refine ca (cRMay6 hp (by exact fun w j => j.1)) fun _ _ => ?_
    refine go ?_
    refine ca (cMarks (r := rn p) (by omega) (fun i h => by have := rn_at h; omega) (by exact fun w j => j.1)) fun y hy => ?_
    have hfl := marks_fl rfl hp hy
    obtain ⟨N, hN⟩ : ∃ N, N = 65536 := ⟨_, rfl⟩
    rw [← hN] at hfl ⊢
    refine go ?_
    refine ca (cList4 hN (by rw [hfl]; omega)) fun z _ => ?_
    rw [hfl]
    refine fz (go ?_)
    refine ca (cAMay4 (by exact fun w j => j.1)) fun _ _ => ?_
    refine go ?_
    exact rt z trivial rfl (fun _ h => h.rest.ent fun _ j => ⟨j.1, j.2.2⟩)
end
section
variable {J : List (World → Prop)} {H : List RC} {q : Q2} {xs : List Int} {o : Nat} {p : Nat → Bool}
def bgR : Bool → List Int
  | true => []
  | false => [16]
/-- What the parts of an image are read as. -/
structure RdP (p : Nat → Bool) (q : Q2) (xs : List Int) (o a1 a2 e : Nat) (run : Bool) : Prop where
  n : 0 < (fl p 64).length
  hb : xs.length ≤ 100000000
  o1 : o ≤ xs.length
  o2 : a1 + 4 ≤ xs.length
  o3 : run = false → a1 + 8 ≤ xs.length
  o4 : e ≤ xs.length
  hd : ∀ {J : List (World → Prop)} {H : List RC} {b : Nat}, Ent J (Rs f8 1 q.1 q.2 xs) → Tr TP 107 [pb b] (Ctx J (mo b q xs o :: H)) (fun z : Q2 => .tuple #[.int .i64 1, .slice z.1 1 z.2, .bool !run, .int .i64 0]) (fun _ => True) (fun z => Ctx J (sl fB 1 4 z.1 z.2 [run] :: mo b q xs a1 :: H))
  k : sub xs a1 (a1 + 2) = le 2 ((0 : Nat) : Int)
  c : sub xs (a1 + 2) (a1 + 4) = le 2 (((fl p 64).length - 1 : Nat) : Int)
  f : run = false → sub xs (a1 + 4) (a1 + 6) = le 2 ((16 : Nat) : Int) ∧ sub xs (a1 + 6) (a1 + 8) = le 2 ((0 : Nat) : Int) ∧ a1 + 8 = o + 16
  a : a2 = if run then a1 + 4 else a1 + 8
  one : ∀ {J : List (World → Prop)} {H : List RC} {b : Nat}, Ent J (Rs f8 1 q.1 q.2 xs) → Tr TP 110 [pb b, .int .i64 (fl p 64).length, .bool run] (Ctx J (mo b q xs a2 :: H)) (fun z : Q2 => .tuple #[.slice z.1 (fl p 64).length z.2, .int .i64 0]) (fun _ => True) (fun z => Ctx (Rs fh 1 z.1 z.2 (fl p 64) :: J) (mo b q xs e :: H))
set_option maxHeartbeats 16000000 in
theorem cRead9 {a1 a2 e : Nat} {run : Bool} (h : RdP p q xs o a1 a2 e run) (hJ : Ent J (Rs f8 1 q.1 q.2 xs)) :
    Tr TP 45 [.slice q.1 xs.length q.2, .int .i64 o] (Ctx J H) (fun y : Q2 => .tuple #[.slice y.1 (spO (fl p 64)).length y.2, .int .i64 e, .int .i64 0]) (fun _ => True) (fun y => Ctx (Rs fSp 2 y.1 y.2 (spO (fl p 64)) :: J) H) := by
  have hl64 := fl_len (g := p) (n := 64)
  obtain ⟨h1, h2, h3, h4, h5, h6, hd, hk, hc, hf, ha, ho⟩ := h
  refine en0 Tryz.func45 rfl rfl rfl (addJ hJ (go ?_))
  intro b
  refine ca (hd (by exact fun w j => j.1)) fun z _ => ?_
  refine fz (go ?_)
  refine pre (fun w h => Ctx.nl (f := fi) (sz := 1) (e := 3) (Ctx.nl (f := fi) (sz := 1) (e := 3) h)) ?_
  obtain ⟨n, hn⟩ : ∃ n, n = (fl p 64).length := ⟨_, rfl⟩
  rw [← hn] at hc h1 hl64
  refine lp (X := Nat × List Int × List Int × Nat × Q2 × Q2) (fun (i, ks, cs, at', z1, z2) => (i = 0 ∧ ks = [] ∧ cs = [] ∧ at' = a1) ∨ (i = 1 ∧ ks = [0] ∧ cs = [(n : Int)] ∧ at' = a1 + 4)) (fun (i, ks, cs, at', z1, z2) => [(0, .slice q.1 xs.length q.2), (1, .int .i64 o), (7, pb b), (8, .int .i64 1), (9, .slice z.1 1 z.2), (10, .bool !run), (12, .slice z1.1 ks.length z1.2), (13, .slice z2.1 cs.length z2.2), (14, .slice none 0 0), (15, .int .i64 i)])
    (fun (i, ks, cs, at', z1, z2) => Ctx (Rs fB 1 z.1 z.2 [run] :: Rs f8 1 q.1 q.2 xs :: J) (sl fi 1 3 z1.1 z1.2 ks :: sl fi 1 3 z2.1 z2.2 cs :: mo b q xs at' :: H)) (fun y => 1 - y.1) (0, [], [], a1, (none, 0), (none, 0)) (.inl ⟨rfl, rfl, rfl, rfl⟩) rfl (fun _ h => h) fun (i, ks, cs, at', z1, z2) hI => ?_
  dsimp only at hI ⊢
  rcases hI with ⟨rfl, rfl, rfl, rfl⟩ | ⟨rfl, rfl, rfl, rfl⟩
  · refine go ?_
    refine frc 2 rfl ?_
    refine ca (cTwo9 (v := 0) hk (by omega) (by omega) h2 (by exact fun w j => j.2.1)) fun _ _ => ?_
    refine fr 1 rfl ?_
    refine go ?_
    intro b1 q1
    refine frc 1 rfl ?_
    refine ca (cTwo9 (v := n - 1) hc (by omega) (by omega) h2 (by exact fun w j => j.2.1)) fun _ _ => ?_
    refine fr 2 rfl ?_
    refine go ?_
    intro b2 q2
    rw [show ((n - 1 : Nat) : Int) + 1 = n by omega]
    refine fr 2 rfl ?_
    exact en (1, [0], [(n : Int)], at' + 4, q1, q2) ⟨.inr ⟨rfl, rfl, rfl, rfl⟩, by dsimp only; omega⟩ rfl (fun _ h => h)
  · refine go ?_
    refine fz (fz ?_)
    refine lp (X := Unit) (fun _ => True) (fun _ => [(0, .slice q.1 xs.length q.2), (1, .int .i64 o), (7, pb b), (8, .int .i64 1), (9, .slice z.1 1 z.2), (10, .bool !run), (12, .slice z1.1 1 z1.2), (13, .slice z2.1 1 z2.2), (14, .slice none 0 0), (16, .int .i64 1)])
      (fun _ => Ctx (Rs fi 1 z2.1 z2.2 [(n : Int)] :: Rs fi 1 z1.1 z1.2 [0] :: Rs fB 1 z.1 z.2 [run] :: Rs f8 1 q.1 q.2 xs :: J) (mo b q xs (a1 + 4) :: H)) (fun _ => 0) () trivial rfl (fun _ h => h) fun _ _ => ?_
    refine go ?_
    refine ct2 (X := Q2) (fun _ => True) (fun z3 => [(1, .int .i64 o), (7, pb b), (8, .int .i64 1), (9, .slice z.1 1 z.2), (10, .bool !run), (12, .slice z1.1 1 z1.2), (13, .slice z2.1 1 z2.2), (14, .slice z3.1 (bgR run).length z3.2)])
      (fun z3 => Ctx (Rs fi 1 z3.1 z3.2 (bgR run) :: Rs fi 1 z2.1 z2.2 [(n : Int)] :: Rs fi 1 z1.1 z1.2 [0] :: Rs fB 1 z.1 z.2 [run] :: Rs f8 1 q.1 q.2 xs :: J) (mo b q xs a2 :: H)) ⟨fun hr => ?_, fun hr => ?_⟩ fun z3 _ => ?_
    · obtain rfl : run = false := by simpa using hr
      obtain ⟨f1, f2, f3⟩ := hf rfl
      have h5' := h5 rfl
      refine go ?_
      refine pre (fun w h => Ctx.nl (f := fi) (sz := 1) (e := 3) h) ?_
      refine lp (X := Nat × List Int × Nat × Q2) (fun (i, bs, at', z3) => (i = 0 ∧ bs = [] ∧ at' = a1 + 4) ∨ (i = 1 ∧ bs = [16] ∧ at' = a1 + 8)) (fun (i, bs, at', z3) => [(1, .int .i64 o), (7, pb b), (8, .int .i64 1), (9, .slice z.1 1 z.2), (10, .bool !false), (12, .slice z1.1 1 z1.2), (13, .slice z2.1 1 z2.2), (14, .slice z3.1 bs.length z3.2), (17, .int .i64 i)])
        (fun (i, bs, at', z3) => Ctx (Rs fi 1 z2.1 z2.2 [(n : Int)] :: Rs fi 1 z1.1 z1.2 [0] :: Rs fB 1 z.1 z.2 [false] :: Rs f8 1 q.1 q.2 xs :: J) (sl fi 1 3 z3.1 z3.2 bs :: mo b q xs at' :: H)) (fun y => 1 - y.1) (0, [], a1 + 4, (none, 0)) (.inl ⟨rfl, rfl, rfl⟩) rfl (fun _ h => h) fun (i, bs, at', z3) hI => ?_
      dsimp only at hI ⊢
      rcases hI with ⟨rfl, rfl, rfl⟩ | ⟨rfl, rfl, rfl⟩
      · refine go ?_
        refine frc 1 rfl ?_
        refine ca (cFour9 (i := a1 + 4) (v := 16) (w := 0) f1 f2 (by omega) (by omega) (by omega) h2 (by exact fun w j => j.2.2.2.1)) fun _ _ => ?_
        refine fr 1 rfl ?_
        refine go ?_
        intro b3 q3
        exact en (1, [16], a1 + 8, q3) ⟨.inr ⟨rfl, rfl, rfl⟩, by dsimp only; omega⟩ rfl (fun _ h => h)
      · refine go ?_
        refine fz ?_
        obtain rfl : a2 = a1 + 8 := ha
        exact ed z3 trivial rfl (fun _ h => h)
    · obtain rfl : run = true := by simpa using hr
      obtain rfl : a2 = a1 + 4 := ha
      refine go ?_
      exact ed (none, 0) trivial rfl (fun _ h => h.ent fun w j => ⟨Rs.nil0 _ _ _ _, j⟩)
    · refine go ?_
      have hf3 : run = false → a2 = o + 16 := fun hr => by subst hr; have := (hf rfl).2.2; have h9 : a2 = a1 + 8 := ha; omega
      have hak : a2 ≤ xs.length := by cases run with | true => (have h9 : a2 = a1 + 4 := ha; omega) | false => (have h9 : a2 = a1 + 8 := ha; have := h5 rfl; omega)
      refine pre (fun w h => Ctx.nl (f := fSp) (sz := 2) (e := 223) h) ?_
      refine lp (X := Nat × List (Nat × Nat) × Nat × Q2) (fun (i, s, at', zs) => (i = 0 ∧ s = [] ∧ at' = a2) ∨ (i = 1 ∧ s = spO (fl p 64) ∧ at' = e)) (fun (i, s, at', zs) => [(1, .int .i64 o), (7, pb b), (8, .int .i64 1), (9, .slice z.1 1 z.2), (10, .bool !run), (12, .slice z1.1 1 z1.2), (13, .slice z2.1 1 z2.2), (14, .slice z3.1 (bgR run).length z3.2), (18, .slice zs.1 s.length zs.2), (19, .int .i64 i)])
        (fun (i, s, at', zs) => Ctx (Rs fi 1 z3.1 z3.2 (bgR run) :: Rs fi 1 z2.1 z2.2 [(n : Int)] :: Rs fi 1 z1.1 z1.2 [0] :: Rs fB 1 z.1 z.2 [run] :: Rs f8 1 q.1 q.2 xs :: J) (sl fSp 2 223 zs.1 zs.2 s :: mo b q xs at' :: H)) (fun y => 1 - y.1) (0, [], a2, (none, 0)) (.inl ⟨rfl, rfl, rfl⟩) rfl (fun _ h => h) fun (i, s, at', zs) hI => ?_
      dsimp only at hI ⊢
      rcases hI with ⟨rfl, rfl, rfl⟩ | ⟨rfl, rfl, rfl⟩
      · subst hn
        cases run
        case' false =>
          have h9 := hf3 rfl
          obtain ⟨rr, hrr⟩ : ∃ rr : Bool, rr = false := ⟨_, rfl⟩
          dsimp only [bgR]
          refine go ?_
          refine ⟨fun h => absurd (show (16 : Int) = (at' : Int) - o by omega) h, fun _ => ?_⟩
        case' true => obtain ⟨rr, hrr⟩ : ∃ rr : Bool, rr = true := ⟨_, rfl⟩
        all_goals
          refine go ?_
          refine frc 1 rfl ?_
          refine ca (ho (b := b) (by exact fun w j => j.2.2.2.2.1)) fun zl _ => ?_
          refine ⟨fun _ _ w h => allF_all fun q hq => by
            simp only [List.mem_cons, List.not_mem_nil, or_false] at hq
            repeat' (rcases hq with hq | hq)
            all_goals (try subst hq)
            all_goals first | exact trivial | exact h.js.2.2.1 | exact h.js.2.2.2.2.1 | exact h.js.2.1, ?_⟩
          refine go ?_
          refine fr 1 rfl ?_
          refine lp (X := Nat × List (Nat × Nat) × Q2) (fun (k, A, zs) => k ≤ (fl p 64).length ∧ A = spO ((fl p 64).take k) ∧ A.length ≤ k) (fun (k, A, zs) => [(1, .int .i64 o), (7, pb b), (8, .int .i64 1), (9, .slice z.1 1 z.2), (10, .bool !rr), (12, .slice z1.1 1 z1.2), (13, .slice z2.1 1 z2.2), (14, .slice z3.1 (bgR rr).length z3.2), (18, .slice zs.1 A.length zs.2), (19, .int .i64 0), (20, .slice zl.1 (fl p 64).length zl.2), (22, .int .i64 k)])
            (fun (k, A, zs) => Ctx (Rs fh 1 zl.1 zl.2 (fl p 64) :: Rs fi 1 z1.1 z1.2 [0] :: Rs fi 1 z3.1 z3.2 (bgR rr) :: Rs fi 1 z2.1 z2.2 [((fl p 64).length : Int)] :: Rs fB 1 z.1 z.2 [rr] :: Rs f8 1 q.1 q.2 xs :: J) (sl fSp 2 223 zs.1 zs.2 A :: mo b q xs e :: H)) (fun y => (fl p 64).length - y.1) (0, [], zs) ⟨Nat.zero_le _, rfl, Nat.le_refl _⟩ (by rw [hrr]; rfl) (fun w h => by rw [hrr]; exact h.ent fun w j => ⟨j.1, j.2.2.2.1, j.2.1, j.2.2.1, j.2.2.2.2⟩) fun (k, A, zs) ⟨hk1, hA1, hA2⟩ => ?_
          dsimp only at hk1 hA1 hA2 ⊢
          refine go ?_
          refine ⟨fun g1 => ?_, fun g1 => ?_⟩
          · have hk2 : k < (fl p 64).length := by omega
            have hv := (mem_fl.1 (List.getElem_mem hk2)).1
            have e1 : (fl p 64).take (k + 1) = (fl p 64).take k ++ [(fl p 64)[k]] := List.take_succ_eq_append_getElem hk2
            obtain ⟨v, hv0⟩ : ∃ v : Nat, v = (fl p 64)[k] := ⟨_, rfl⟩
            rw [← hv0] at hv e1
            have hE : spS A v = spO ((fl p 64).take (k + 1)) := by rw [e1, spO_snoc, hA1]
            refine go ?_
            rw [← hv0]
            simp only [List.getElem_cons_zero, Int.zero_emod, Int.zero_mul, Int.zero_add]
            refine ⟨fun g2 => ?_, fun g2 => ?_⟩
            · have g4 : A.length - 1 < A.length := by omega
              refine go ?_
              rw [show (A.length : Int) - 1 = ((A.length - 1 : Nat) : Int) by omega]
              refine ⟨fun _ => ?_, fun h => nomatch h⟩
              refine go ?_
              refine ⟨fun g3 => ?_, fun g3 => ?_⟩
              · refine go ?_
                rw [show (A.length : Int) - 1 = ((A.length - 1 : Nat) : Int) by omega]
                refine go ?_
                have g5 : A[A.length - 1].2 = v := by omega
                rw [g5]
                refine hA0 rfl rfl (oSf (f := fSp) (k := 0) (i := A.length - 1) (y := (A[A.length - 1].1, v + 1)) rfl rfl rfl rfl g4 rfl rfl rfl rfl) rfl ?_
                refine go ?_
                have hsx : spS A v = A.set (A.length - 1) (A[A.length - 1].1, v + 1) := spS_set g4 g5
                exact en (k + 1, A.set (A.length - 1) (A[A.length - 1].1, v + 1), zs) ⟨⟨by dsimp only; omega, by dsimp only; rw [← hE]; exact hsx.symm, by dsimp only; rw [List.length_set]; omega⟩, by dsimp only; omega⟩ (by simp) (fun _ h => h)
              · refine go ?_
                intro bb
                refine ap1 (f := fSp) (v, v + 1) (hv := rfl) fun q2 => ?_
                refine go ?_
                exact en (k + 1, A ++ [(v, v + 1)], q2) ⟨⟨by dsimp only; omega, by dsimp only; rw [← hE]; exact (spS_app fun h ee => g3 (by omega)).symm, by dsimp only; rw [List.length_append, List.length_singleton]; omega⟩, by dsimp only; omega⟩ (by simp) (fun _ h => h)
            · refine go ?_
              intro bb
              refine ap1 (f := fSp) (v, v + 1) (hv := rfl) fun q2 => ?_
              refine go ?_
              exact en (k + 1, A ++ [(v, v + 1)], q2) ⟨⟨by dsimp only; omega, by dsimp only; rw [← hE]; exact (spS_app fun h ee => absurd h (by omega)).symm, by dsimp only; rw [List.length_append, List.length_singleton]; omega⟩, by dsimp only; omega⟩ (by simp) (fun _ h => h)
          · obtain rfl : k = (fl p 64).length := by omega
            refine go ?_
            rw [List.take_length] at hA1
            exact en (1, A, e, zs) ⟨.inr ⟨rfl, hA1, rfl⟩, by dsimp only; omega⟩ (by rw [hrr]; rfl) (fun w h => by rw [hrr] at h; exact h.ent fun w j => ⟨j.2.2.1, j.2.2.2.1, j.2.1, j.2.2.2.2⟩)
      · refine go ?_
        exact rt zs trivial rfl (fun w h => h.fzS.rest.ent fun w j => ⟨j.1, j.2.2.2.2.2.2⟩)
end
section
variable {J : List (World → Prop)} {H : List RC} {q : Q2} {xs A B : List Int} {o : Nat} {p : Nat → Bool}
/-- An image wherever it stands. -/
theorem rdP_of (hx0 : xs = A ++ (img p ++ B)) (ho : o = A.length) (hp : P60 p) (hne : em p = false) (hb : xs.length ≤ 100000000) : ∃ a1 a2 run, RdP p q xs o a1 a2 (o + (img p).length) run := by
  have hn := em_len hne
  have hl64 := fl_len (g := p) (n := 64)
  have hxl := congrArg List.length hx0
  simp only [List.length_append] at hxl
  by_cases hc : cn p = 3
  · have himg := img_R hc
    have hil : (img p).length = 11 + 4 * (rn p).length := by
      rw [himg]
      simp only [List.length_append, w2_len, rw2_len, List.length_cons, List.length_nil]; omega
    obtain ⟨W, hW⟩ : ∃ W, W = [0, (fl p 64).length - 1, (rn p).length] ++ rw2 (rn p) := ⟨_, rfl⟩
    have hWl : W.length = 3 + 2 * (rn p).length := by rw [hW, List.length_append, rw2_len]; rfl
    have h1 : xs = A ++ (w2 [12347, 0] ++ ([1] ++ (w2 W ++ B))) := by rw [hx0, himg, hW]; simp
    have h2 : xs = (A ++ (w2 [12347, 0] ++ [1])) ++ (w2 W ++ B) := by rw [h1]; simp
    have hAl : (A ++ (w2 [12347, 0] ++ [1])).length = o + 5 := by simp only [List.length_append, w2_len, List.length_cons, List.length_nil]; omega
    have at' : ∀ i (h : i < W.length), sub xs (o + 5 + 2 * i) (o + 5 + 2 * i + 2) = le 2 ((W[i] : Nat) : Int) := fun i h => (w2_at h2 h (by rw [hAl])).1
    have w0 := at' 0 (by omega)
    have w1 := at' 1 (by omega)
    have w2' := at' 2 (by omega)
    have e0 : W[0]'(by omega) = 0 := by subst hW; rfl
    have e1 : W[1]'(by omega) = (fl p 64).length - 1 := by subst hW; rfl
    have e2 : W[2]'(by omega) = (rn p).length := by subst hW; rfl
    rw [e0] at w0
    rw [e1] at w1
    rw [e2] at w2'
    refine ⟨o + 5, o + 9, true, { n := hn, hb := hb, o1 := by omega, o2 := by omega, o3 := (fun h => nomatch h), o4 := by omega, hd := fun hJ => cHeadR9 (l := []) h1 ho hb hJ, k := w0, c := w1, f := (fun h => nomatch h), a := rfl, one := fun {J H b} hJ => ?_ }⟩
    have h3 := @cOneR9 J H b q xs (o + 9) p hp hne w2' (fun i hi => ?_) (by omega) hb hJ
    · rw [show o + 9 + 2 + 4 * (rn p).length = o + (img p).length by omega] at h3
      exact h3
    · have hrl := rw2_len (rn p)
      obtain ⟨r1, r2⟩ := rw2_at (rn p) i hi (by omega) (by omega)
      have g1 := at' (3 + 2 * i) (by omega)
      have g2 := at' (3 + (2 * i + 1)) (by omega)
      have k1 : W[3 + 2 * i]'(by omega) = (rn p)[i].1 := by
        subst hW
        rw [List.getElem_append_right (by simp)]
        simpa using r1
      have k2 : W[3 + (2 * i + 1)]'(by omega) = (rn p)[i].2 := by
        subst hW
        rw [List.getElem_append_right (by simp)]
        simpa using r2
      rw [k1, show o + 5 + 2 * (3 + 2 * i) = o + 9 + 2 + 4 * i by omega] at g1
      rw [k2, show o + 5 + 2 * (3 + (2 * i + 1)) = o + 9 + 2 + 4 * i + 2 by omega] at g2
      exact ⟨g1, g2⟩
  · have himg := img_A hc
    obtain ⟨W, hW⟩ : ∃ W, W = [12346, 0, 1, 0, 0, (fl p 64).length - 1, 16, 0] ++ fl p 64 := ⟨_, rfl⟩
    have hWl : W.length = 8 + (fl p 64).length := by rw [hW, List.length_append]; rfl
    have hil : (img p).length = 16 + 2 * (fl p 64).length := by rw [himg, ← hW, w2_len, hWl]; omega
    have h2 : xs = A ++ (w2 W ++ B) := by rw [hx0, himg, hW]
    have h1 : xs = A ++ (w2 ([12346, 0, 1, 0] ++ ([0, (fl p 64).length - 1, 16, 0] ++ fl p 64)) ++ B) := by rw [h2, hW]; rfl
    have at' : ∀ i (h : i < W.length), sub xs (o + 2 * i) (o + 2 * i + 2) = le 2 ((W[i] : Nat) : Int) := fun i h => (w2_at h2 h (by rw [ho])).1
    have w4 := at' 4 (by omega)
    have w5 := at' 5 (by omega)
    have w6 := at' 6 (by omega)
    have w7 := at' 7 (by omega)
    have e4 : W[4]'(by omega) = 0 := by subst hW; rfl
    have e5 : W[5]'(by omega) = (fl p 64).length - 1 := by subst hW; rfl
    have e6 : W[6]'(by omega) = 16 := by subst hW; rfl
    have e7 : W[7]'(by omega) = 0 := by subst hW; rfl
    rw [e4] at w4
    rw [e5] at w5
    rw [e6] at w6
    rw [e7] at w7
    refine ⟨o + 8, o + 16, false, { n := hn, hb := hb, o1 := by omega, o2 := by omega, o3 := fun _ => by omega, o4 := by omega, hd := fun hJ => cHeadA9 h1 ho hb hJ, k := w4, c := w5, f := fun _ => ⟨w6, w7, rfl⟩, a := rfl, one := fun {J H b} hJ => ?_ }⟩
    have h3 := @cOneA9 J H b q xs (o + 16) p (fun i hi => ?_) (by omega) hb hJ
    · rw [show o + 16 + 2 * (fl p 64).length = o + (img p).length by omega] at h3
      exact h3
    · have g := at' (8 + i) (by omega)
      have k : W[8 + i]'(by omega) = (fl p 64)[i] := by
        subst hW
        rw [List.getElem_append_right (by simp)]
        simp
      rw [k, show o + 2 * (8 + i) = o + 16 + 2 * i by omega] at g
      exact g
end
section
variable {J : List (World → Prop)} {H : List RC} {ad : Option Addr} {cap : Nat} {A : List (Nat × Nat)}
set_option maxHeartbeats 8000000 in
/-- The upper halves of a small set. -/
theorem cKeys8 (hsa : SpOk A 64) (h0 : 0 < A.length) (hl : A.length ≤ 64) (hJ : Ent J (Rs fSp 2 ad cap A)) :
    Tr TP 46 [.slice ad A.length cap] (Ctx J H) (fun y : Q2 => .slice y.1 1 y.2) (fun _ => True) (fun _ => Ctx J H) := by
  refine en0 Tryz.func46 rfl rfl rfl (addJ hJ (go ?_))
  refine pre (fun w h => Ctx.nl (f := fh) (sz := 1) (e := 152) h) ?_
  refine lp (X := Nat × List Nat × Q2) (fun (i, ks, z) => i ≤ A.length ∧ (i = 0 ∧ ks = [] ∨ 0 < i ∧ ks = [0])) (fun (i, ks, z) => [(0, .slice ad A.length cap), (3, .slice z.1 ks.length z.2), (4, .int .i64 i)]) (fun (i, ks, z) => Ctx (Rs fSp 2 ad cap A :: J) (sl fh 1 152 z.1 z.2 ks :: H)) (fun y => A.length - y.1) (0, [], (none, 0)) ⟨Nat.zero_le _, .inl ⟨rfl, rfl⟩⟩ rfl (fun _ h => h) fun (i, ks, z) ⟨hi, hI⟩ => ?_
  dsimp only at hi hI ⊢
  refine go ?_
  refine ⟨fun h1 => ?_, fun h1 => ?_⟩
  · have hi1 : i < A.length := by omega
    obtain ⟨hlt, hle⟩ := hsa.lt i hi1
    refine go ?_
    rw [show (A[i].1 : Int) / 65536 = ((0 : Nat) : Int) by omega]
    refine lp (X := Nat × List Nat × Q2) (fun (k, ks, z) => k = 0 ∧ (i = 0 ∧ ks = [] ∨ 0 < i ∧ ks = [0]) ∨ k = 1 ∧ ks = [0]) (fun (k, ks, z) => [(0, .slice ad A.length cap), (3, .slice z.1 ks.length z.2), (4, .int .i64 i), (5, .int .u64 (k : Nat))]) (fun (k, ks, z) => Ctx (Rs fSp 2 ad cap A :: J) (sl fh 1 152 z.1 z.2 ks :: H)) (fun y => 1 - y.1) (0, ks, z) (.inl ⟨rfl, hI⟩) rfl (fun _ h => h) fun (k, ks, z) hI2 => ?_
    dsimp only at hI2 ⊢
    refine go ?_
    rw [show ((A[i].2 : Int) - 1) / 65536 = ((0 : Nat) : Int) by omega]
    refine ⟨fun g1 => ?_, fun g1 => ?_⟩
    · rcases hI2 with ⟨rfl, hk⟩ | ⟨rfl, -⟩
      · rcases hk with ⟨h2, rfl⟩ | ⟨h2, rfl⟩
        · refine go ?_
          intro bb q2
          exact en (1, [0], q2) ⟨.inr ⟨rfl, rfl⟩, by dsimp only; omega⟩ rfl (fun _ h => h)
        · refine go ?_
          exact en (1, [0], z) ⟨.inr ⟨rfl, rfl⟩, by dsimp only; omega⟩ rfl (fun _ h => h)
      · omega
    · rcases hI2 with ⟨rfl, -⟩ | ⟨rfl, rfl⟩
      · omega
      · refine go ?_
        exact en (i + 1, [0], z) ⟨⟨by dsimp only; omega, .inr ⟨by dsimp only; omega, rfl⟩⟩, by dsimp only; omega⟩ (by simp) (fun _ h => h)
  · obtain rfl : i = A.length := by omega
    obtain rfl : ks = [0] := by rcases hI with ⟨h2, -⟩ | ⟨-, h2⟩; omega; exact h2
    refine go ?_
    exact rt z trivial rfl (fun _ h => h.rest.ent fun _ j => j.2)
end
/-- Which rows an index tells of an id. -/
def pU (ids : List Nat) : Bool → Nat → Nat → Bool
  | false, id => pI ids id
  | true, id => pL ids (id + 1)
def psU (ids : List Nat) (up : Bool) (m : Nat) : List (Nat → Bool) := (List.range m).map (pU ids up)
theorem psU_len {ids : List Nat} {up : Bool} {m : Nat} : (psU ids up m).length = m := by simp [psU]
theorem psU_at {ids : List Nat} {up : Bool} {m i : Nat} (h : i < (psU ids up m).length) : (psU ids up m)[i] = pU ids up i := by simp [psU]
theorem pU_at {ids : List Nat} {up : Bool} {id i : Nat} (h : i < ids.length) : pU ids up id i = (decide (ids[i] = id) || (up && decide (ids[i] < id))) := by
  cases up with
  | false => rw [show pU ids false id = pI ids id from rfl, pI_at h]; simp
  | true =>
    rw [show pU ids true id = pL ids (id + 1) from rfl, pL_at h]
    rw [Bool.eq_iff_iff]; simp; omega
theorem pU_fl {ids : List Nat} {up : Bool} {id : Nat} (h : ids.length ≤ 64) : fl (pU ids up id) 64 = fl (pU ids up id) ids.length :=
  fl_same h fun y hy _ => by cases up with
    | false => exact pI_ge hy
    | true => exact pL_ge hy
section
variable {J : List (World → Prop)} {H : List RC} {q q2 : Q2} {ids : List Nat} {m : Nat} {up : Bool}
set_option maxHeartbeats 8000000 in
theorem cImages (hok : POk (psU ids up m)) (hbn : ids.length ≤ 60) (hJ : Ent J (Rs f8 1 q.1 q.2 (imgs (psU ids up m)))) (hJ2 : Ent J (Rs fn 1 q2.1 q2.2 ids)) :
    Tr TP 13 [.slice q.1 (imgs (psU ids up m)).length q.2, .slice q2.1 ids.length q2.2, .int .i64 m, .bool up] (Ctx J H) (fun _ : Unit => .bool true) (fun _ => True) (fun _ => Ctx J H) := by
  have hm : m ≤ 60 := by have := hok.b; rw [psU_len] at this; exact this
  have hbl := hok.len
  obtain ⟨ps, hps⟩ : ∃ ps, ps = psU ids up m := ⟨_, rfl⟩
  rw [← hps] at hok hbl hJ ⊢
  have hpl : ps.length = m := by rw [hps, psU_len]
  refine en0 Tryz.func13 rfl rfl rfl (addJ hJ2 (addJ (fun w j => hJ w j.2) (go ?_)))
  refine lp (X := Nat) (fun i => i ≤ m) (fun i => [(0, .slice q.1 (imgs ps).length q.2), (1, .slice q2.1 ids.length q2.2), (2, .int .i64 m), (3, .bool up), (9, .int .i64 (imgs (ps.take i)).length), (16, .int .i64 m), (17, .int .i64 i)])
    (fun _ => Ctx (Rs f8 1 q.1 q.2 (imgs ps) :: Rs fn 1 q2.1 q2.2 ids :: J) H) (fun i => m - i) 0 (Nat.zero_le _) rfl (fun _ h => h) fun i hi => ?_
  refine go ?_
  refine ⟨fun h1 => ?_, fun h1 => ?_⟩
  · have hi1 : i < m := by omega
    have hi2 : i < ps.length := by omega
    obtain ⟨p, hp⟩ : ∃ p, p = pU ids up i := ⟨_, rfl⟩
    have hpi : ps[i] = p := by subst hps; rw [psU_at, hp]
    have hcut := imgs_split hi2
    have hsuc : (imgs (ps.take (i + 1))).length = (imgs (ps.take i)).length + (img ps[i]).length := by rw [imgs_succ hi2, List.length_append]
    obtain ⟨hp60, hpe⟩ := hok.p ps[i] (List.getElem_mem hi2)
    rw [hpi] at hcut hsuc hp60 hpe
    obtain ⟨a1, a2, run, hrd⟩ := rdP_of (q := q) hcut rfl hp60 hpe (by omega)
    have hism := img_len hp60
    have hlb : (imgs (ps.take i)).length + (img p).length ≤ 24960 := by have := congrArg List.length hcut; simp only [List.length_append] at this; omega
    refine go ?_
    refine ca (cRead9 hrd (by exact fun w j => j.1)) fun s _ => ?_
    obtain ⟨S, hS⟩ : ∃ S, S = spO (fl p 64) := ⟨_, rfl⟩
    have hSl : S.length ≤ 64 := by rw [hS]; exact spO_len p 64
    have hSp : 0 < S.length := by rw [hS]; exact spO_pos (em_len hpe)
    have hSo : SpOk S 64 := by rw [hS]; exact spO_ok p 64
    rw [← hS]
    refine go ?_
    refine ca (cKeys8 hSo hSp hSl (by exact fun w j => j.1)) fun _ _ => ?_
    refine go ?_
    refine pre (fun w h => Ctx.nl (f := fSp) (sz := 2) (e := 223) h) ?_
    refine lp (X := Nat × List (Nat × Nat) × Q2) (fun (k, A, z) => k ≤ ids.length ∧ A = spO (fl p k)) (fun (k, A, z) => [(0, .slice q.1 (imgs ps).length q.2), (1, .slice q2.1 ids.length q2.2), (2, .int .i64 m), (3, .bool up), (9, .int .i64 ((imgs (ps.take i)).length + (img p).length : Nat)), (10, .int .i64 i), (11, .slice s.1 S.length s.2), (14, .slice z.1 A.length z.2), (16, .int .i64 m), (17, .int .i64 i), (42, .int .i64 ids.length), (43, .int .i64 k)])
      (fun (k, A, z) => Ctx (Rs fSp 2 s.1 s.2 S :: Rs f8 1 q.1 q.2 (imgs ps) :: Rs fn 1 q2.1 q2.2 ids :: J) (sl fSp 2 223 z.1 z.2 A :: H)) (fun y => ids.length - y.1) (0, [], (none, 0)) ⟨Nat.zero_le _, rfl⟩ rfl (fun _ h => h) fun (k, A, z) ⟨hk, hA1⟩ => ?_
    dsimp only at hk hA1 ⊢
    have hsa : SpOk A k := by rw [hA1]; exact spO_ok p k
    have hAl : A.length ≤ k := by rw [hA1]; exact spO_len p k
    refine go ?_
    refine ⟨fun h2 => ?_, fun h2 => ?_⟩
    · have hk1 : k < ids.length := by omega
      have hpk : p k = (decide (ids[k] = i) || (up && decide (ids[k] < i))) := by rw [hp]; exact pU_at hk1
      have hno : p k = false → spO (fl p (k + 1)) = A := fun e => by rw [fl_f e, hA1]
      refine go ?_
      refine ⟨fun g1 => ?A3, fun g1 => ?_⟩
      rotate_left
      · refine go ?_
        refine ⟨fun g2 => ?_, fun g2 => ?_⟩
        · refine go ?_
          refine ⟨fun g3 => ?B3, fun g3 => ?_⟩
          rotate_left
          · have e := hno (by rw [hpk]; simp; omega)
            refine go ?_
            exact en (k + 1, A, z) ⟨⟨by dsimp only; omega, by dsimp only; rw [e]⟩, by dsimp only; omega⟩ (by simp) (fun _ h => h)
          have hpt : p k = true := by rw [hpk, g2]; simp; omega
          refine go ?_
          rw [show (k : Int) + 1 = ((k + 1 : Nat) : Int) by omega]
          refine ca (cSpan (row := k) (by omega)) fun b1 _ => ?_
          refine go ?_
          refine fzc (fzc ?_)
          refine ca (cBoth (row := k) hsa (by omega) (by omega) (by exact fun w j => j.1) (by exact fun w j => j.2.1)) fun z2 _ => ?_
          refine go ?_
          exact en (k + 1, spS A k, z2) ⟨⟨by dsimp only; omega, by dsimp only; rw [fl_t hpt, spO_snoc, hA1]⟩, by dsimp only; omega⟩ (by simp) (fun w h => h.ent fun w j => j.2.2)
        · have e := hno (by rw [hpk, g2]; simp; omega)
          refine go ?_
          exact en (k + 1, A, z) ⟨⟨by dsimp only; omega, by dsimp only; rw [e]⟩, by dsimp only; omega⟩ (by simp) (fun _ h => h)
      have hpt : p k = true := by rw [hpk]; simp; omega
      refine go ?_
      rw [show (k : Int) + 1 = ((k + 1 : Nat) : Int) by omega]
      refine ca (cSpan (row := k) (by omega)) fun b1 _ => ?_
      refine go ?_
      refine fzc (fzc ?_)
      refine ca (cBoth (row := k) hsa (by omega) (by omega) (by exact fun w j => j.1) (by exact fun w j => j.2.1)) fun z2 _ => ?_
      refine go ?_
      exact en (k + 1, spS A k, z2) ⟨⟨by dsimp only; omega, by dsimp only; rw [fl_t hpt, spO_snoc, hA1]⟩, by dsimp only; omega⟩ (by simp) (fun w h => h.ent fun w j => j.2.2)
    · obtain rfl : k = ids.length := by omega
      have hAS : A = S := by rw [hA1, hS, hp, pU_fl (by omega)]
      refine fz (go ?_)
      rw [hAS]
      refine ca (cSame (by omega) (by exact fun w j => j.2.1) (by exact fun w j => j.1)) fun _ _ => ?_
      refine go ?_
      exact en (i + 1) ⟨by omega, by omega⟩ (by rw [hsuc]; simp) (fun w h => h.ent fun w j => j.2.2)
  · obtain rfl : i = m := by omega
    refine go ?_
    rw [List.take_of_length_le (by omega)]
    rw [decide_eq_true rfl]
    exact rt () trivial rfl (fun _ h => h.ent fun w j => j.2.2)
theorem cImages' {n : Nat} (hn : n = ids.length) (hok : POk (psU ids up m)) (hbn : ids.length ≤ 60) (hJ : Ent J (Rs f8 1 q.1 q.2 (imgs (psU ids up m)))) (hJ2 : Ent J (Rs fn 1 q2.1 q2.2 ids)) :
    Tr TP 13 [.slice q.1 (imgs (psU ids up m)).length q.2, .slice q2.1 n q2.2, .int .i64 m, .bool up] (Ctx J H) (fun _ : Unit => .bool true) (fun _ => True) (fun _ => Ctx J H) := by
  subst hn; exact cImages hok hbn hJ hJ2
end
end
end Go.Proofs.YtimemehaccgmmaaGreatDoor
