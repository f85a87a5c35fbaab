/-
  Parts of the walks and their plain laws (W9 R29 R30 R31 R32 W6). No condition.
-/
import Derived.Test.YtimemehaccgmmaaGreatDoorM20
import Derived.Test.YtimemehaccgmmaaGreatDoorM10
import Derived.Test.YtimemehaccgmmaaGreatDoorM13
import Derived.Test.YtimemehaccgmmaaGreatDoorM09
namespace Go.Proofs.YtimemehaccgmmaaGreatDoor
open Go.RowKit
set_option maxRecDepth 100000
set_option linter.unusedVariables false
set_option linter.unusedSimpArgs false
noncomputable section
theorem flen {α β : Type} {g : α → List β} {c : Nat} (h : ∀ x, (g x).length = c) : ∀ l : List α, (l.flatMap g).length = l.length * c
  | [] => by simp
  | x :: l => by rw [List.flatMap_cons, List.length_append, h, flen h l, List.length_cons, Nat.succ_mul]; omega
theorem flat_split {α β : Type} (g : α → List β) (l : List α) (k : Nat) (hk : k < l.length) : l.flatMap g = (l.take k).flatMap g ++ (g l[k] ++ (l.drop (k + 1)).flatMap g) := by
  have e : l = l.take k ++ (l[k] :: l.drop (k + 1)) := by rw [← List.drop_eq_getElem_cons hk, List.take_append_drop]
  have := congrArg (fun l => l.flatMap g) e
  simpa only [List.flatMap_append, List.flatMap_cons] using this
theorem sub_flat {α : Type} {g : α → List Int} {c : Nat} (hg : ∀ x, (g x).length = c) (A B : List Int) (l : List α) (k : Nat) (hk : k < l.length) : sub (A ++ (l.flatMap g ++ B)) (A.length + k * c) (A.length + k * c + c) = g l[k] := by
  have e := flat_split g l k hk
  have e2 : ((l.take k).flatMap g).length = k * c := by rw [flen hg, List.length_take, Nat.min_eq_left (by omega)]
  refine sub_at (A ++ (l.take k).flatMap g) (g l[k]) ((l.drop (k + 1)).flatMap g ++ B) ?_ (by simp [e2]) (by simp [e2, hg])
  rw [e]; simp
theorem cEqB {J H} {ad ad2 : Option Addr} {cap cap2 : Nat} {xs : List Int} (hJ : Ent J (Rs f8 1 ad cap xs) := by exact jA) (hJ2 : Ent J (Rs f8 1 ad2 cap2 xs) := by exact jA) :
    Tr TP 105 [.slice ad xs.length cap, .slice ad2 xs.length cap2] (Ctx J H) (fun _ : Unit => .bool true) (fun _ => True) (fun _ => Ctx J H) := by
  refine en0 Tryz.func105 rfl rfl rfl (addJ hJ (addJ (fun w j => hJ2 w j.2) (go ?_)))
  rw [show decide ((strOfNums xs).toList = (strOfNums xs).toList) = true by simp]
  exact rt () trivial rfl (fun _ h => h.ent fun _ j => j.2.2)
section
variable {J : List (World → Prop)} {H : List RC} {x : Nat × Q2} {l : List Int}
def metH (l : List Int) : List Int := le 4 l.length ++ le 8 (u64 (mnL l)) ++ le 8 (u64 (mxL l))
theorem cMBytes (hJ : Ent J (Bn (Met x l)) := by exact jA) (hb : l.length ≤ 1000 := by omega) : Tr TP 70 [pb x.1] (Ctx J H) (fun q : Q2 => .slice q.1 (metB l).length q.2) (fun _ => True) (fun q => Ctx J (sl f8 1 5 q.1 q.2 (metB l) :: H)) := by
  refine en0 Tryz.func70 rfl rfl rfl (addS2 hJ ?_)
  refine go ?_
  refine cg cMNone fun _ _ => ?_
  rw [show (20 : Int) + 8 * (l.length : Int) = ((20 + 8 * l.length : Nat) : Int) by omega]
  refine mk0 f8 0 fun b => ?_
  refine go ?_
  intro c
  refine frc 1 rfl (cg (cMPut (m := 4) (xs := [])) fun q _ => ?_)
  refine cg (cMPut (m := 8)) fun q _ => ?_
  refine cg (cMPut (m := 8)) fun q _ => ?_
  refine lp (X := Nat × Q2) (fun x => x.1 ≤ l.length) (fun (k, q) => [(3, pb c), (4, .func (.func 133) #[] #[pb c]), (43, .slice x.2.1 l.length x.2.2), (44, .int .i64 l.length), (45, .int .i64 k)]) (fun (k, q) => Ctx ((pt x.1 245 [.slice x.2.1 l.length x.2.2, .int .i64 (mnL l), .int .i64 (mxL l), .bool true]).A :: Rs fi 1 x.2.1 x.2.2 l :: Bn (Met x l) :: J) (sl f8 1 5 q.1 q.2 (metH l ++ (l.take k).flatMap fun n => le 8 (u64 n)) :: pt c 32 [.slice q.1 (metH l ++ (l.take k).flatMap fun n => le 8 (u64 n)).length q.2] :: H)) (fun x => l.length - x.1) (0, q) (by simp) rfl (fun _ h => by simpa [metH, u64] using h) fun ⟨k, q⟩ hk => ?_
  dsimp only at hk
  have hlen : (metH l ++ (l.take k).flatMap fun n => le 8 (u64 n)).length = 20 + k * 8 := by
    rw [List.length_append, flen (c := 8) (fun _ => le_len _ _)]; simp [metH]; omega
  refine go ?_
  refine br (fun h => ?_) fun h => ?_
  · have hl : k < l.length := by omega
    refine cg (cMPut (m := 8) (hb := by omega)) fun q _ => ?_
    refine en (k + 1, q) (by dsimp only; omega) rfl (fun _ h => ?_)
    simp only [List.take_succ_eq_append_getElem hl, List.flatMap_append, List.flatMap_cons, List.flatMap_nil, List.append_nil, ← List.append_assoc]
    exact h
  · obtain rfl : k = l.length := by omega
    rw [List.take_length] at hlen ⊢
    exact rt q trivial rfl (fun _ h => (h.perm (.swap _ _ _)).rest.ent fun _ j => j.2.2.2)
theorem metH_len (l : List Int) : (metH l).length = 20 := by simp [metH]
theorem metB_len (l : List Int) : (metB l).length = 20 + l.length * 8 := by
  unfold metB; rw [List.length_append, flen (c := 8) (fun _ => le_len _ _)]; simp
theorem metB_B8 (l : List Int) : B8 (metB l) := by
  intro x hx
  simp only [metB, List.mem_append, List.mem_flatMap] at hx
  rcases hx with ((hx | hx) | hx) | ⟨y, -, hx⟩ <;> exact le_B8 _ _ x hx
theorem cMRead {ad : Option Addr} {cap : Nat} (hJ : Ent J (Rs f8 1 ad cap (metB l)) := by exact jA) (hb : l.length ≤ 1000 := by omega) (hl : ∀ n ∈ l, -9223372036854775808 ≤ n ∧ n < 9223372036854775808) :
    Tr TP 94 [.slice ad (metB l).length cap, .int .i64 l.length] (Ctx J H) (fun x : Nat × Q2 => .tuple #[pb x.1, .int .i64 0]) (fun _ => True) (fun x => Ctx (Bn (Met x l) :: J) H) := by
  have hlen := metB_len l
  have h8 := metB_B8 l
  have e1 : un (sub (metB l) 0 (0 + 4)) = l.length := by
    rw [sub_at (l := metB l) (i := 0) (j := 0 + 4) [] (le 4 l.length) (le 8 (u64 (mnL l)) ++ le 8 (u64 (mxL l)) ++ l.flatMap fun n => le 8 (u64 n)) (by simp [metB]) rfl (by simp), un_le _ _ (by omega)]
  have e2 : ∀ k (h : k < l.length), un (sub (metB l) (20 + k * 8) (20 + k * 8 + 8)) = u64 l[k] := by
    intro k h
    have := sub_flat (g := fun n => le 8 (u64 n)) (c := 8) (fun _ => le_len _ _) (metH l) [] l k h
    rw [metH_len, List.append_nil] at this
    rw [show metB l = metH l ++ l.flatMap fun n => le 8 (u64 n) from rfl, this, un_le _ _ (by unfold u64; omega)]
  refine en0 Tryz.func94 rfl rfl rfl (addJ hJ (go ?_))
  refine cg cNew fun ⟨b, r⟩ _ => ?_
  refine ca (cU32 (h8 := h8)) fun _ _ => ?_
  rw [e1]
  refine go ?_
  refine cg cBad fun _ _ => ?_
  refine cg (cBytes (m := 16)) fun s _ => ?_
  refine mk fi 0 fun c => ?_
  refine go ?_
  refine fr 2 rfl ?_
  refine lp (X := Nat) (fun k => k ≤ l.length) (fun k => [(0, .slice ad (metB l).length cap), (6, pb b), (9, .slice (some ⟨c, 0, none⟩) l.length l.length), (47, .int .i64 l.length), (48, .int .i64 k)]) (fun k => Ctx (Rs f8 1 r.1 r.2 (metB l) :: Rs f8 1 ad cap (metB l) :: J) (rdr b r (metB l) (20 + k * 8) :: sl fi 1 2 (some ⟨c, 0, none⟩) l.length (l.take k ++ List.replicate (l.length - k) 0) :: sl f8 1 5 s.1 s.2 (sub (metB l) (0 + 4) (0 + 4 + 16)) :: H)) (fun k => l.length - k) 0 (by simp) rfl (fun _ h => by simpa using h) fun k hk => ?_
  refine go ?_
  refine br (fun h => ?_) fun h => ?_
  · have hkl : k < l.length := by omega
    refine ca (cU64 (hi := by omega) (h8 := h8)) fun _ _ => ?_
    rw [e2 k hkl]
    refine go ?_
    rw [wi64 (hl _ (by simp))]
    have e3 : (l.take k ++ List.replicate (l.length - k) 0).set k (l[k]'(by omega)) = l.take (k + 1) ++ List.replicate (l.length - (k + 1)) 0 := take_set (by omega) 0
    refine en (k + 1) (by omega) rfl (fun _ h => ?_)
    rw [← e3, show 20 + (k + 1) * 8 = 20 + k * 8 + 8 by omega]
    exact h
  · obtain rfl : k = l.length := by omega
    simp only [List.take_length, Nat.sub_self, List.replicate_zero, List.append_nil]
    refine frc 1 rfl (fzc (cg cMOf fun x _ => ?_))
    have hm1 : sub (metB l) 0 20 = metH l := sub_at [] (metH l) (l.flatMap fun n => le 8 (u64 n)) rfl rfl (by simp [metH])
    have hm2 := metH_len l
    intro q
    refine cg cMBytes fun q2 _ => ?_
    refine fzd ?_
    refine dSc 0 20 je0 fun q3 => ?_
    rw [hm1]
    refine go ?_
    refine cg (cEqB (xs := metH l)) fun _ _ => ?_
    exact rt x trivial rfl (fun _ h => h.rest.rest.ent fun _ j => ⟨j.2.2.2.1, j.2.2.2.2.2.2.2⟩)
end
end
end Go.Proofs.YtimemehaccgmmaaGreatDoor
namespace Go.Proofs.YtimemehaccgmmaaGreatDoor
open Go.RowKit
set_option maxRecDepth 100000
set_option linter.unusedVariables false
set_option linter.unusedSimpArgs false
noncomputable section
section
variable {J : List (World → Prop)} {H : List RC} {p : Nat → Bool} {x : SetD} {k : Nat} {s q : Q2} {ad : Option Addr} {cap b c i : Nat} {xs A B : List Int}
theorem bA_at {l : List Nat} (hxs : xs = A ++ (bA l ++ B)) {d : Nat} (hd : d < l.length) : sub xs (A.length + d * 2) (A.length + d * 2 + 2) = le 2 (l[d] : Int) := by
  subst hxs
  exact sub_flat (c := 2) (g := fun x : Nat => le 2 (x : Int)) (fun _ => rfl) A B l d hd
set_option maxHeartbeats 4000000 in
theorem cArr (hp : P60 p) (hxs : xs = A ++ (bA (fl p 64) ++ B)) (hi : i = A.length) (h8 : B8 xs) (hb : xs.length ≤ 100000000) (hJ : Ent J (Rs f8 1 q.1 q.2 xs) := by exact jA) :
    Tr TP 276 [pb b, .int .i64 (fl p 64).length] (Ctx J (prd b c :: rdr c q xs i :: H)) (fun z : Q2 => .tuple #[.agg ⟨cC 1 z p⟩, .bool true]) (fun _ => True) (fun z => Ctx (cF 1 z p :: J) (prd b c :: rdr c q xs (i + 2 * (fl p 64).length) :: H)) := by
  have hl : (fl p 64).length ≤ 64 := fl_len
  have hlt : ∀ i (h : i < (fl p 64).length), (fl p 64)[i] < 64 := fun i h => (mem_fl.1 (List.getElem_mem h)).1
  have hxl : i + 2 * (fl p 64).length ≤ xs.length := by subst hxs; simp only [List.length_append, bA_len]; omega
  refine en0 Tryz.func276 rfl rfl rfl (addJ hJ (go ?_))
  intro z0
  refine frc 1 rfl (frc 2 rfl (frc 1 rfl ?_))
  rw [show (2 : Int) * ((fl p 64).length : Int) = ((2 * (fl p 64).length : Nat) : Int) by omega]
  refine cg (cRHs2 (by omega) hb) fun _ _ => ?_
  refine mk fh 0 fun z => ?_
  refine go ?_
  refine fr 2 rfl ?_
  refine lp (X := Nat) (fun d => d ≤ (fl p 64).length) (fun d => [(0, pb b), (4, pb z0), (6, .slice (some ⟨z, 0, none⟩) (fl p 64).length (fl p 64).length), (17, .int .i64 (fl p 64).length), (18, .int .i64 d)])
    (fun d => Ctx (Rs f8 1 q.1 q.2 xs :: J) (rdr c q xs (i + d * 2) :: sl fh 1 152 (some ⟨z, 0, none⟩) (fl p 64).length ((fl p 64).take d ++ List.replicate ((fl p 64).length - d) 0) :: prd b c :: pt z0 232 [.int .u8 0, .slice none 0 0, .slice none 0 0, .slice none 0 0] :: H)) (fun d => (fl p 64).length - d) 0 (by omega) rfl (fun _ h => h) fun d hd => ?_
  refine go ?_
  refine br (fun h0 => ?_) fun h0 => ?_
  · have h : d < (fl p 64).length := by omega
    have h1 := hlt d h
    refine cg (gU16 (v := ((fl p 64)[d] : Int)) (by rw [hi]; exact bA_at hxs h) (by constructor <;> omega) (by omega) hb h8) fun _ _ => ?_
    rw [take_set h, show i + d * 2 + 2 = i + (d + 1) * 2 by omega]
    exact en (d + 1) (by omega) rfl (fun _ h => h)
  · have e : d = (fl p 64).length := by omega
    subst e
    rw [List.take_length, Nat.sub_self, List.replicate_zero, show fl p 64 ++ ([] : List Nat) = fl p 64 from List.append_nil _, show i + (fl p 64).length * 2 = i + 2 * (fl p 64).length by omega]
    refine frc 1 rfl (fzc ?_)
    refine cg cOfA fun r _ => ?_
    refine fr 1 rfl ?_
    exact rv r trivial (fun w h => (h.drp 2).ent fun w j => ⟨j.1, j.2.2.2⟩)
theorem bR_at {l : List (Nat × Nat)} (hxs : xs = A ++ (bR l ++ B)) {d : Nat} (hd : d < l.length) : sub xs (A.length + d * 4) (A.length + d * 4 + 4) = le 2 (l[d].1 : Int) ++ le 2 (l[d].2 : Int) := by
  subst hxs
  exact sub_flat (c := 4) (g := fun r : Nat × Nat => le 2 (r.1 : Int) ++ le 2 (r.2 : Int)) (fun _ => rfl) A B l d hd
theorem sub2 {l a b : List Int} {i : Nat} (h : sub l i (i + 4) = a ++ b) (ha : a.length = 2) (hb : b.length = 2) (hl : i + 4 ≤ l.length) : sub l i (i + 2) = a ∧ sub l (i + 2) (i + 2 + 2) = b := by
  have e : ∀ m n, m ≤ n → n ≤ 4 → sub l (i + m) (i + n) = sub (sub l i (i + 4)) m n := by
    intro m n h1 h2
    simp only [sub, List.take_drop, List.drop_drop, List.take_take]
    rw [Nat.min_eq_left (by omega)]
  have e1 := e 0 2 (by omega) (by omega)
  have e2 := e 2 4 (by omega) (by omega)
  rw [h] at e1 e2
  refine ⟨e1.trans ?_, (show sub l (i + 2) (i + 4) = _ from e2).trans ?_⟩
  · simp [sub, ha]
  · simp only [sub]
    rw [List.take_of_length_le (by simp [ha, hb]), ← ha, List.drop_left]
theorem fl_gt {β : Type} {l : List β} {d : Nat} (h : d < l.length) (z : β) (h2) : (l.take d ++ List.replicate (l.length - d) z)[d]'h2 = z := by
  rw [List.getElem_append_right (by rw [List.length_take]; omega)]; simp
set_option maxHeartbeats 4000000 in
theorem cRnr {m : Nat} (hne : 0 < (rn p).length) (hp : P60 p) (hxs : xs = A ++ ((le 2 ((rn p).length : Int) ++ bR (rn p)) ++ B)) (hi : i = A.length) (h8 : B8 xs) (hb : xs.length ≤ 100000000) (hJ : Ent J (Rs f8 1 q.1 q.2 xs) := by exact jA) :
    Tr TP 277 [pb b, .int .i64 m] (Ctx J (prd b c :: rdr c q xs i :: H)) (fun z : Q2 => .tuple #[.agg ⟨cC 3 z p⟩, .bool true]) (fun _ => True) (fun z => Ctx (cF 3 z p :: J) (prd b c :: rdr c q xs (i + (2 + 4 * (rn p).length)) :: H)) := by
  have hl := rn_len hp
  have hxl : i + (2 + 4 * (rn p).length) ≤ xs.length := by subst hxs; simp only [List.length_append, bR_len, show (le 2 ((rn p).length : Int)).length = 2 from rfl]; omega
  have hx1 : sub xs i (i + 2) = le 2 ((rn p).length : Int) := sub_at A (le 2 ((rn p).length : Int)) (bR (rn p) ++ B) (by rw [hxs, List.append_assoc]) hi (by rw [hi]; rfl)
  have hxs2 : xs = (A ++ le 2 ((rn p).length : Int)) ++ (bR (rn p) ++ B) := by rw [hxs]; simp only [List.append_assoc]
  have hi2 : i + 2 = (A ++ le 2 ((rn p).length : Int)).length := by rw [List.length_append, hi]; rfl
  refine en0 Tryz.func277 rfl rfl rfl (addJ hJ (go ?_))
  intro z0
  refine frc 1 rfl (frc 2 rfl (frc 1 rfl ?_))
  refine cg (cRHs2 (m := 2) (by omega) hb) fun _ _ => ?_
  refine frc 1 rfl ?_
  refine cg (gU16 hx1 (by constructor <;> omega) (by omega) hb h8) fun _ _ => ?_
  refine frc 1 rfl ?_
  rw [show decide ((0 : Int) < ((rn p).length : Int)) = true from decide_eq_true (by omega)]
  refine cg cChkP fun _ _ => ?_
  rw [show (4 : Int) * ((rn p).length : Int) = ((4 * (rn p).length : Nat) : Int) by omega]
  refine cg (cRHs2 (by omega) hb) fun _ _ => ?_
  refine mk fR (0, 0) fun z => ?_
  refine go ?_
  refine fr 2 rfl ?_
  refine lp (X := Nat) (fun d => d ≤ (rn p).length) (fun d => [(0, pb b), (4, pb z0), (7, .slice (some ⟨z, 0, none⟩) (rn p).length (rn p).length), (35, .int .i64 (rn p).length), (36, .int .i64 d)])
    (fun d => Ctx (Rs f8 1 q.1 q.2 xs :: J) (rdr c q xs (i + 2 + d * 4) :: sl fR 2 297 (some ⟨z, 0, none⟩) (rn p).length ((rn p).take d ++ List.replicate ((rn p).length - d) (0, 0)) :: prd b c :: pt z0 232 [.int .u8 0, .slice none 0 0, .slice none 0 0, .slice none 0 0] :: H)) (fun d => (rn p).length - d) 0 (by omega) rfl (fun _ h => h) fun d hd => ?_
  refine go ?_
  refine br (fun h0 => ?_) fun h0 => ?_
  · have h : d < (rn p).length := by omega
    have h1 := rn_at h
    have h3 := sub2 (bR_at hxs2 h) rfl rfl (by rw [← hi2]; omega)
    rw [← hi2] at h3
    refine cg (gU16 (v := ((rn p)[d].1 : Int)) h3.1 (by constructor <;> omega) (by omega) hb h8) fun _ _ => ?_
    have hle : d < ((rn p).take d ++ List.replicate ((rn p).length - d) (0, 0)).length := by rw [List.length_append, List.length_take, List.length_replicate]; omega
    refine hA0 rfl rfl (oSf (k := 1) (y := ((rn p)[d].1, 0)) rfl rfl rfl rfl hle (by rw [fl_gt h]; rfl) rfl rfl rfl) rfl ?_
    refine go ?_
    refine cg (gU16 (v := ((rn p)[d].2 : Int)) h3.2 (by constructor <;> omega) (by omega) hb h8) fun _ _ => ?_
    refine hA0 rfl rfl (oSf (k := 1) (y := ((rn p)[d].1, (rn p)[d].2)) rfl rfl rfl rfl (by rw [List.length_set]; exact hle) (by rw [List.getElem_set_self]; rfl) rfl rfl rfl) rfl ?_
    refine go ?_
    rw [List.set_set, take_set h, show i + 2 + d * 4 + 2 + 2 = i + 2 + (d + 1) * 4 by omega]
    exact en (d + 1) (by omega) rfl (fun _ h => h)
  · have e : d = (rn p).length := by omega
    subst e
    rw [List.take_length, Nat.sub_self, List.replicate_zero, show rn p ++ ([] : List (Nat × Nat)) = rn p from List.append_nil _, show i + 2 + (rn p).length * 4 = i + (2 + 4 * (rn p).length) by omega]
    refine frc 1 rfl (fzc ?_)
    refine cg (cOfR hp) fun r _ => ?_
    refine fr 1 rfl ?_
    exact rv r trivial (fun w h => (h.drp 2).ent fun w j => ⟨j.1, j.2.2.2⟩)
end
end
end Go.Proofs.YtimemehaccgmmaaGreatDoor
namespace Go.Proofs.YtimemehaccgmmaaGreatDoor
open Go.RowKit
set_option maxRecDepth 100000
set_option linter.unusedVariables false
set_option linter.unusedSimpArgs false
noncomputable section
section
variable {J : List (World → Prop)} {H : List RC} {p : Nat → Bool} {x : SetD} {k : Nat} {s q : Q2} {ad : Option Addr} {cap b c i : Nat} {xs A B : List Int}
set_option maxHeartbeats 4000000 in
theorem cOneA (hk : cn p = 1) (hp : P60 p) (hxs : xs = A ++ (bd p ++ B)) (hi : i = A.length) (h8 : B8 xs) (hb : xs.length ≤ 100000000) (hJ : Ent J (Rs f8 1 q.1 q.2 xs) := by exact jA) :
    Tr TP 231 [pb b, .int .i64 (fl p 64).length, .bool false] (Ctx J (prd b c :: rdr c q xs i :: H)) (fun z : Q2 => .agg ⟨cC 1 z p⟩) (fun _ => True) (fun z => Ctx (cF 1 z p :: J) (prd b c :: rdr c q xs (i + (bd p).length) :: H)) := by
  have hl : (fl p 64).length ≤ 64 := fl_len
  have eb : bd p = bA (fl p 64) := by unfold bd; rw [if_neg (by omega)]
  rw [eb] at hxs ⊢
  rw [bA_len]
  refine en0 Tryz.func231 rfl rfl rfl (addJ hJ (go ?_))
  intro z0
  refine frc 1 rfl (frc 2 rfl (frc 1 rfl ?_))
  refine cg (cArr hp hxs hi h8 hb) fun z _ => ?_
  intro z1
  refine cg (cCLen (k := 1) (s := z) (p := p) (by omega) hp jA) fun _ _ => ?_
  rw [show decide (((fl p 64).length : Int) = ((fl p 64).length : Int)) = true from decide_eq_true rfl]
  refine frc 1 rfl ?_
  refine cg cChkP fun _ _ => ?_
  exact rv z trivial (fun w h => ((h.drp 1).drp 2).ent fun w j => ⟨j.1, j.2.2⟩)
set_option maxHeartbeats 4000000 in
theorem cOneR {m : Nat} (hm : m = (fl p 64).length) (hk : cn p = 3) (hne : 0 < (rn p).length) (hp : P60 p) (hxs : xs = A ++ (bd p ++ B)) (hi : i = A.length) (h8 : B8 xs) (hb : xs.length ≤ 100000000) (hJ : Ent J (Rs f8 1 q.1 q.2 xs) := by exact jA) :
    Tr TP 231 [pb b, .int .i64 m, .bool true] (Ctx J (prd b c :: rdr c q xs i :: H)) (fun z : Q2 => .agg ⟨cC 3 z p⟩) (fun _ => True) (fun z => Ctx (cF 3 z p :: J) (prd b c :: rdr c q xs (i + (bd p).length) :: H)) := by
  have hl : (fl p 64).length ≤ 64 := fl_len
  have eb : bd p = le 2 ((rn p).length : Int) ++ bR (rn p) := by unfold bd; rw [if_pos hk]
  rw [eb] at hxs ⊢
  rw [List.length_append, bR_len, show (le 2 ((rn p).length : Int)).length = 2 from rfl]
  refine en0 Tryz.func231 rfl rfl rfl (addJ hJ (go ?_))
  intro z0
  refine frc 1 rfl (frc 2 rfl (frc 1 rfl ?_))
  refine cg (cRnr hne hp hxs hi h8 hb) fun z _ => ?_
  intro z1
  refine cg (cCLen (k := 3) (s := z) (p := p) (by omega) hp jA) fun _ _ => ?_
  rw [hm, show decide (((fl p 64).length : Int) = ((fl p 64).length : Int)) = true from decide_eq_true rfl]
  refine frc 1 rfl ?_
  refine cg cChkP fun _ _ => ?_
  exact rv z trivial (fun w h => ((h.drp 1).drp 2).ent fun w j => ⟨j.1, j.2.2⟩)
end
end
end Go.Proofs.YtimemehaccgmmaaGreatDoor
namespace Go.Proofs.YtimemehaccgmmaaGreatDoor
open Go.RowKit
set_option maxRecDepth 100000
set_option linter.unusedVariables false
set_option linter.unusedSimpArgs false
noncomputable section
section
variable {J : List (World → Prop)} {H : List RC} {p : Nat → Bool} {x : SetD} {k : Nat} {s q : Q2} {ad : Option Addr} {cap b c i : Nat} {xs A B : List Int}
theorem em_len (hne : em p = false) : 0 < (fl p 64).length := by
  unfold em at hne
  cases h : fl p 64 with
  | nil => rw [h] at hne; cases hne
  | cons a l => simp
set_option maxHeartbeats 8000000 in
theorem cPRd1 (hk : cn p = 1) (hne : em p = false) (hp : P60 p) (hT : Ent J TabT) (hxs : xs = A ++ (img p ++ B)) (hi : i = A.length) (h8 : B8 xs) (hb : xs.length ≤ 100000000) (hJ : Ent J (Rs f8 1 ad cap xs) := by exact jA) :
    Tr TP 176 [.slice ad xs.length cap, .int .i64 i] (Ctx J H) (fun z : SetD => .tuple #[pb z.b, .int .i64 ((i + (img p).length : Nat)), .int .i64 0]) (fun _ => True) (fun z => Ctx (sF z p false :: J) H) := by
  have hl : (fl p 64).length ≤ 64 := fl_len
  have h0 := em_len hne
  have hbl := bd_le hp
  have eI : img p = hdA (fl p 64).length ++ bd p := by unfold img; rw [if_neg (by omega)]
  have hle : A.length ≤ xs.length := by rw [hxs, List.length_append]; omega
  have ey : sub xs i xs.length = img p ++ B := by rw [sub, List.take_length, hi, hxs, List.drop_left]
  have ey2 : img p ++ B = le 4 12346 ++ (le 4 1 ++ (le 2 0 ++ (le 2 (((fl p 64).length - 1 : Nat) : Int) ++ (le 4 16 ++ (bd p ++ B))))) := by rw [eI]; simp only [hdA, List.append_assoc]
  have y8 : B8 (img p ++ B) := fun y hy => h8 y (by rw [hxs]; exact List.mem_append_right _ hy)
  have yl : (img p ++ B).length = 16 + (bd p).length + B.length := by rw [List.length_append, eI, List.length_append]; rfl
  have yb : (img p ++ B).length ≤ 100000000 := by rw [hxs, List.length_append] at hb; omega
  have f1 : sub (img p ++ B) 0 4 = le 4 12346 := sub_at [] (le 4 12346) _ ey2 rfl rfl
  have f2 : sub (img p ++ B) 4 8 = le 4 1 := sub_at (le 4 12346) (le 4 1) _ ey2 rfl rfl
  have f3 : sub (img p ++ B) 8 10 = le 2 0 := sub_at (le 4 12346 ++ le 4 1) (le 2 0) (le 2 (((fl p 64).length - 1 : Nat) : Int) ++ (le 4 16 ++ (bd p ++ B))) (ey2.trans (by simp only [List.append_assoc])) rfl rfl
  have f4 : sub (img p ++ B) 10 12 = le 2 (((fl p 64).length - 1 : Nat) : Int) := sub_at (le 4 12346 ++ (le 4 1 ++ le 2 0)) (le 2 (((fl p 64).length - 1 : Nat) : Int)) (le 4 16 ++ (bd p ++ B)) (ey2.trans (by simp only [List.append_assoc])) rfl rfl
  have f5 : sub (img p ++ B) 12 16 = le 4 16 := sub_at (le 4 12346 ++ (le 4 1 ++ (le 2 0 ++ le 2 (((fl p 64).length - 1 : Nat) : Int)))) (le 4 16) (bd p ++ B) (ey2.trans (by simp only [List.append_assoc])) rfl rfl
  have f6 : img p ++ B = hdA (fl p 64).length ++ (bd p ++ B) := by rw [eI, List.append_assoc]
  have el : (img p).length = 16 + (bd p).length := by rw [eI, List.length_append]; rfl
  clear ey2
  refine en0 Tryz.func176 rfl rfl rfl (addJ hJ (addJ (R := TabT) (fun w j => hT w j.2) (go ?_)))
  rw [ey]
  intro q0
  refine cg (cNew (hb := yb)) fun ⟨c, q⟩ _ => ?_
  intro b
  refine cg (cCookA y8 yb (by omega) f1 f2) fun z _ => ?_
  refine fzc ?_
  rw [show (4 : Int) * 1 = ((4 : Nat) : Int) by decide]
  refine cg (cRHs2 (by omega) yb) fun _ _ => ?_
  refine par21 fh 0 (fN .i64) 0 1 4 3 (m := 1) (m2 := 1) (mkMa rfl rfl rfl rfl rfl rfl rfl rfl rfl rfl rfl rfl (by omega) rfl rfl rfl rfl rfl rfl fun _ => rfl) rfl rfl rfl rfl rfl rfl rfl rfl rfl rfl rfl rfl (by omega) fun y1 _ y2 => ?_
  refine go ?_
  refine fr 3 rfl ?_
  refine lp (X := Nat) (fun d => d = 0 ∨ d = 1) (fun d => [(1, .int .i64 i), (7, pb b), (8, .int .i64 1), (9, .slice (some ⟨z, 0, none⟩) 1 1), (10, .bool true), (11, .slice y1.1 1 y1.2), (12, .slice (some ⟨y2, 0, none⟩) 1 1), (52, .int .i64 1), (53, .int .i64 d)])
    (fun d => Ctx (Rs f8 1 (some ⟨z, 0, none⟩) 1 [0] :: Rs f8 1 q.1 q.2 (img p ++ B) :: TabT :: J) (rdr c q (img p ++ B) (sw 8 12 d) :: sl fh 1 152 y1.1 y1.2 [0] :: sl (fN .i64) 1 3 (some ⟨y2, 0, none⟩) 1 [sw 0 (fl p 64).length d] :: prd b c :: H)) (fun d => 1 - d) 0 (.inl rfl) rfl (fun _ h => h.ent fun w j => ⟨j.1, j.2.1, j.2.2.2.1, j.2.2.2.2.2⟩) fun d hz => ?_
  rcases hz with rfl | rfl
  · refine go ?_
    refine cg (gU16 (i := 8) f3 (by decide) (by omega) yb y8) fun _ _ => ?_
    refine cg (gU16 (i := 10) f4 (by constructor <;> omega) (by omega) yb y8) fun _ _ => ?_
    rw [show (fl p 64).length - 1 + 1 = (fl p 64).length by omega]
    exact en 1 (by omega) rfl (fun _ h => h)
  refine go ?_
  refine lp (X := Unit) (fun _ => True) (fun _ => [(1, .int .i64 i), (7, pb b), (8, .int .i64 1), (9, .slice (some ⟨z, 0, none⟩) 1 1), (10, .bool true), (11, .slice y1.1 1 y1.2), (12, .slice (some ⟨y2, 0, none⟩) 1 1), (14, .int .i64 1)])
    (fun _ => Ctx (Rs f8 1 (some ⟨z, 0, none⟩) 1 [0] :: Rs f8 1 q.1 q.2 (img p ++ B) :: TabT :: J) (rdr c q (img p ++ B) 12 :: sl fh 1 152 y1.1 y1.2 [0] :: sl (fN .i64) 1 3 (some ⟨y2, 0, none⟩) 1 [(fl p 64).length] :: prd b c :: H)) (fun _ => 0) () trivial rfl (fun _ h => h) fun _ _ => ?_
  refine fr 1 rfl (fz ?_)
  refine fr 1 rfl (fz ?_)
  refine fr 1 rfl (go ?_)
  rw [show (4 : Int) * 1 = ((4 : Nat) : Int) by decide]
  refine cg (cRHs2 (by omega) yb) fun _ _ => ?_
  refine fr 1 rfl (nwS fq 1 85 none ?_)
  refine lp (X := Nat × Q2) (fun x => x.1 = 0 ∨ x.1 = 1) (fun (d, u) => [(1, .int .i64 i), (7, pb b), (8, .int .i64 1), (9, .slice (some ⟨z, 0, none⟩) 1 1), (10, .bool true), (11, .slice y1.1 1 y1.2), (12, .slice (some ⟨y2, 0, none⟩) 1 1), (15, .slice u.1 d u.2), (99, .int .i64 1), (100, .int .i64 d)])
    (fun (d, u) => Ctx (Rs (fN .i64) 1 (some ⟨y2, 0, none⟩) 1 [(fl p 64).length] :: Rs fh 1 y1.1 y1.2 [0] :: Rs f8 1 (some ⟨z, 0, none⟩) 1 [0] :: Rs f8 1 q.1 q.2 (img p ++ B) :: TabT :: J) (sl fq 1 85 u.1 u.2 (sw [] [16] d) :: rdr c q (img p ++ B) (sw 12 16 d) :: prd b c :: H)) (fun x => 1 - x.1) (0, none, 0) (.inl rfl) rfl (fun _ h => h) fun ⟨d, u⟩ hz => ?_
  dsimp only at hz
  rcases hz with rfl | rfl
  · refine go ?_
    refine frc 1 rfl ?_
    refine cg (gU32 (i := 12) f5 (by decide) (by omega) yb y8) fun _ _ => ?_
    intro b3
    rw [show sw ([] : List Nat) [16] 0 = [] from rfl]
    refine go ?_
    intro u2
    refine fr 1 rfl ?_
    exact en (1, u2) (by dsimp only; omega) rfl (fun _ h => h)
  refine fz (fr 1 rfl (go ?_))
  refine nwS (fCt 1 p) 4 232 none ?_
  refine lp (X := Nat × Q2 × Q2) (fun x => x.1 = 0 ∨ x.1 = 1) (fun (d, v, w) => [(1, .int .i64 i), (7, pb b), (8, .int .i64 1), (9, .slice (some ⟨z, 0, none⟩) 1 1), (10, .bool true), (11, .slice y1.1 1 y1.2), (12, .slice (some ⟨y2, 0, none⟩) 1 1), (15, .slice u.1 1 u.2), (16, .slice v.1 d v.2), (17, .int .i64 d)])
    (fun (d, v, w) => match d with
      | 0 => Ctx (Rs fq 1 u.1 u.2 [16] :: Rs (fN .i64) 1 (some ⟨y2, 0, none⟩) 1 [(fl p 64).length] :: Rs fh 1 y1.1 y1.2 [0] :: Rs f8 1 (some ⟨z, 0, none⟩) 1 [0] :: Rs f8 1 q.1 q.2 (img p ++ B) :: TabT :: J) (sl (fCt 1 p) 4 232 v.1 v.2 [] :: prd b c :: rdr c q (img p ++ B) 16 :: H)
      | _ => Ctx (cF 1 w p :: Rs fq 1 u.1 u.2 [16] :: Rs (fN .i64) 1 (some ⟨y2, 0, none⟩) 1 [(fl p 64).length] :: Rs fh 1 y1.1 y1.2 [0] :: Rs f8 1 (some ⟨z, 0, none⟩) 1 [0] :: Rs f8 1 q.1 q.2 (img p ++ B) :: TabT :: J) (sl (fCt 1 p) 4 232 v.1 v.2 [w] :: prd b c :: rdr c q (img p ++ B) (16 + (bd p).length) :: H)) (fun x => 1 - x.1) (0, (none, 0), (none, 0)) (.inl rfl) rfl (fun _ h => h) fun ⟨d, v, w⟩ hz => ?_
  dsimp only at hz
  rcases hz with rfl | rfl
  · refine go ?_
    refine frc 2 rfl ?_
    refine cg (cAt (i := 16)) fun _ _ => ?_
    rw [show decide (((([16] : List Nat)[0]'(by decide) : Nat) : Int) % 18446744073709551616 = ((16 : Nat) : Int)) = true by decide]
    refine frc 2 rfl ?_
    refine cg cChkP fun _ _ => ?_
    rw [show decide (IntKind.wrap .u8 ((BitVec.ofInt (IntKind.bits .u8) ((([0] : List Int)[0 / 8]'(by decide)) / 2 ^ min (0 % Int.natAbs 8) (IntKind.bits .u8)) &&& BitVec.ofInt (IntKind.bits .u8) 1).toNat : Int) = 1) = false by decide]
    refine cg (cOneA (A := hdA (fl p 64).length) (B := B) (i := 16) hk hp f6 rfl y8 yb) fun w2 _ => ?_
    intro b4 u3
    refine fr 2 rfl ?_
    exact en (1, u3, w2) (by dsimp only; omega) rfl (fun _ h => h)
  refine go ?_
  refine fzc ?_
  refine cg (cJoin1 (k := 1) (c := w) (.inl rfl) hne hp jA jA jA jA) fun r _ => ?_
  refine frc 1 rfl ?_
  refine cg (cAt (i := 16 + (bd p).length)) fun _ _ => ?_
  rw [show (i : Int) + ((16 + (bd p).length : Nat) : Int) = ((i + (img p).length : Nat) : Int) by omega]
  exact rv r trivial (fun w h => h.rest.rest.ent fun w j => ⟨j.1, j.2.2.2.2.2.2.2.2.2⟩)
end
end
end Go.Proofs.YtimemehaccgmmaaGreatDoor
namespace Go.Proofs.YtimemehaccgmmaaGreatDoor
open Go.RowKit
set_option maxRecDepth 100000
set_option linter.unusedVariables false
set_option linter.unusedSimpArgs false
noncomputable section
section
variable {J : List (World → Prop)} {H : List RC} {p : Nat → Bool} {x : SetD} {k : Nat} {s q : Q2} {ad : Option Addr} {cap b c i : Nat} {xs A B : List Int}
set_option maxHeartbeats 8000000 in
theorem cPRd3 (hk : cn p = 3) (hne : em p = false) (hne2 : 0 < (rn p).length) (hp : P60 p) (hT : Ent J TabT) (hxs : xs = A ++ (img p ++ B)) (hi : i = A.length) (h8 : B8 xs) (hb : xs.length ≤ 100000000) (hJ : Ent J (Rs f8 1 ad cap xs) := by exact jA) :
    Tr TP 176 [.slice ad xs.length cap, .int .i64 i] (Ctx J H) (fun z : SetD => .tuple #[pb z.b, .int .i64 ((i + (img p).length : Nat)), .int .i64 0]) (fun _ => True) (fun z => Ctx (sF z p false :: J) H) := by
  have hl : (fl p 64).length ≤ 64 := fl_len
  have h0 := em_len hne
  have hbl := bd_le hp
  have eI : img p = hdR (fl p 64).length ++ bd p := by unfold img; rw [if_pos hk]
  have hle : A.length ≤ xs.length := by rw [hxs, List.length_append]; omega
  have ey : sub xs i xs.length = img p ++ B := by rw [sub, List.take_length, hi, hxs, List.drop_left]
  have ey2 : img p ++ B = le 4 12347 ++ ([1] ++ (le 2 0 ++ (le 2 (((fl p 64).length - 1 : Nat) : Int) ++ (bd p ++ B)))) := by rw [eI, show le 4 12347 = le 2 12347 ++ le 2 0 by decide]; simp only [hdR, List.append_assoc]
  have y8 : B8 (img p ++ B) := fun y hy => h8 y (by rw [hxs]; exact List.mem_append_right _ hy)
  have yl : (img p ++ B).length = 9 + (bd p).length + B.length := by rw [List.length_append, eI, List.length_append]; rfl
  have yb : (img p ++ B).length ≤ 100000000 := by rw [hxs, List.length_append] at hb; omega
  have f1 : sub (img p ++ B) 0 4 = le 4 12347 := sub_at [] (le 4 12347) _ ey2 rfl rfl
  have f2 : sub (img p ++ B) 4 5 = [1] := sub_at (le 4 12347) [1] _ ey2 rfl rfl
  have f3 : sub (img p ++ B) 5 7 = le 2 0 := sub_at (le 4 12347 ++ [1]) (le 2 0) (le 2 (((fl p 64).length - 1 : Nat) : Int) ++ (bd p ++ B)) (ey2.trans (by simp only [List.append_assoc])) rfl rfl
  have f4 : sub (img p ++ B) 7 9 = le 2 (((fl p 64).length - 1 : Nat) : Int) := sub_at (le 4 12347 ++ ([1] ++ le 2 0)) (le 2 (((fl p 64).length - 1 : Nat) : Int)) (bd p ++ B) (ey2.trans (by simp only [List.append_assoc])) rfl rfl
  have f6 : img p ++ B = hdR (fl p 64).length ++ (bd p ++ B) := by rw [eI, List.append_assoc]
  have el : (img p).length = 9 + (bd p).length := by rw [eI, List.length_append]; rfl
  clear ey2
  refine en0 Tryz.func176 rfl rfl rfl (addJ hJ (addJ (R := TabT) (fun w j => hT w j.2) (go ?_)))
  rw [ey]
  intro q0
  refine cg (cNew (hb := yb)) fun ⟨c, q⟩ _ => ?_
  intro b
  refine cg (cCookR y8 yb (by omega) f1 f2) fun z _ => ?_
  rw [show (4 : Int) * 1 = ((4 : Nat) : Int) by decide]
  refine cg (cRHs2 (by omega) yb) fun _ _ => ?_
  refine par21 fh 0 (fN .i64) 0 1 4 3 (m := 1) (m2 := 1) (mkMa rfl rfl rfl rfl rfl rfl rfl rfl rfl rfl rfl rfl (by omega) rfl rfl rfl rfl rfl rfl fun _ => rfl) rfl rfl rfl rfl rfl rfl rfl rfl rfl rfl rfl rfl (by omega) fun y1 _ y2 => ?_
  refine go ?_
  refine fr 3 rfl ?_
  refine lp (X := Nat) (fun d => d = 0 ∨ d = 1) (fun d => [(1, .int .i64 i), (7, pb b), (8, .int .i64 1), (9, .slice z.1 1 z.2), (10, .bool false), (11, .slice y1.1 1 y1.2), (12, .slice (some ⟨y2, 0, none⟩) 1 1), (52, .int .i64 1), (53, .int .i64 d)])
    (fun d => Ctx (Rs f8 1 z.1 z.2 [1] :: Rs f8 1 q.1 q.2 (img p ++ B) :: TabT :: J) (rdr c q (img p ++ B) (sw 5 9 d) :: sl fh 1 152 y1.1 y1.2 [0] :: sl (fN .i64) 1 3 (some ⟨y2, 0, none⟩) 1 [sw 0 (fl p 64).length d] :: prd b c :: H)) (fun d => 1 - d) 0 (.inl rfl) rfl (fun _ h => h.ent fun w j => ⟨j.1, j.2.1, j.2.2.2.1, j.2.2.2.2.2⟩) fun d hz => ?_
  rcases hz with rfl | rfl
  · refine go ?_
    refine cg (gU16 (i := 5) f3 (by decide) (by omega) yb y8) fun _ _ => ?_
    refine cg (gU16 (i := 7) f4 (by constructor <;> omega) (by omega) yb y8) fun _ _ => ?_
    rw [show (fl p 64).length - 1 + 1 = (fl p 64).length by omega]
    exact en 1 (by omega) rfl (fun _ h => h)
  refine go ?_
  refine lp (X := Unit) (fun _ => True) (fun _ => [(1, .int .i64 i), (7, pb b), (8, .int .i64 1), (9, .slice z.1 1 z.2), (10, .bool false), (11, .slice y1.1 1 y1.2), (12, .slice (some ⟨y2, 0, none⟩) 1 1), (14, .int .i64 1)])
    (fun _ => Ctx (Rs f8 1 z.1 z.2 [1] :: Rs f8 1 q.1 q.2 (img p ++ B) :: TabT :: J) (rdr c q (img p ++ B) 9 :: sl fh 1 152 y1.1 y1.2 [0] :: sl (fN .i64) 1 3 (some ⟨y2, 0, none⟩) 1 [(fl p 64).length] :: prd b c :: H)) (fun _ => 0) () trivial rfl (fun _ h => h) fun _ _ => ?_
  refine fr 1 rfl (fz ?_)
  refine fr 1 rfl (fz ?_)
  refine fr 1 rfl (go ?_)
  refine nwS (fCt 3 p) 4 232 none ?_
  refine lp (X := Nat × Q2 × Q2) (fun x => x.1 = 0 ∨ x.1 = 1) (fun (d, v, w) => [(1, .int .i64 i), (7, pb b), (8, .int .i64 1), (9, .slice z.1 1 z.2), (10, .bool false), (11, .slice y1.1 1 y1.2), (12, .slice (some ⟨y2, 0, none⟩) 1 1), (16, .slice v.1 d v.2), (17, .int .i64 d)])
    (fun (d, v, w) => match d with
      | 0 => Ctx (Rs (fN .i64) 1 (some ⟨y2, 0, none⟩) 1 [(fl p 64).length] :: Rs fh 1 y1.1 y1.2 [0] :: Rs f8 1 z.1 z.2 [1] :: Rs f8 1 q.1 q.2 (img p ++ B) :: TabT :: J) (sl (fCt 3 p) 4 232 v.1 v.2 [] :: prd b c :: rdr c q (img p ++ B) 9 :: H)
      | _ => Ctx (cF 3 w p :: Rs (fN .i64) 1 (some ⟨y2, 0, none⟩) 1 [(fl p 64).length] :: Rs fh 1 y1.1 y1.2 [0] :: Rs f8 1 z.1 z.2 [1] :: Rs f8 1 q.1 q.2 (img p ++ B) :: TabT :: J) (sl (fCt 3 p) 4 232 v.1 v.2 [w] :: prd b c :: rdr c q (img p ++ B) (9 + (bd p).length) :: H)) (fun x => 1 - x.1) (0, (none, 0), (none, 0)) (.inl rfl) rfl (fun _ h => h) fun ⟨d, v, w⟩ hz => ?_
  dsimp only at hz
  rcases hz with rfl | rfl
  · refine go ?_
    refine frc 1 rfl ?_
    refine cg cChkP fun _ _ => ?_
    rw [show decide (IntKind.wrap .u8 ((BitVec.ofInt (IntKind.bits .u8) ((([1] : List Int)[0 / 8]'(by decide)) / 2 ^ min (0 % Int.natAbs 8) (IntKind.bits .u8)) &&& BitVec.ofInt (IntKind.bits .u8) 1).toNat : Int) = 1) = true by decide]
    refine frc 2 rfl (frc 1 rfl ?_)
    refine cg (cOneR (A := hdR (fl p 64).length) (B := B) (i := 9) rfl hk hne2 hp f6 rfl y8 yb) fun w2 _ => ?_
    intro b4 u3
    refine fr 2 rfl ?_
    exact en (1, u3, w2) (by dsimp only; omega) rfl (fun _ h => h)
  refine go ?_
  refine fzc ?_
  refine cg (cJoin1 (k := 3) (c := w) (.inr rfl) hne hp jA jA jA jA) fun r _ => ?_
  refine frc 1 rfl ?_
  refine cg (cAt (i := 9 + (bd p).length)) fun _ _ => ?_
  rw [show (i : Int) + ((9 + (bd p).length : Nat) : Int) = ((i + (img p).length : Nat) : Int) by omega]
  exact rv r trivial (fun w h => h.rest.rest.ent fun w j => ⟨j.1, j.2.2.2.2.2.2.2.2⟩)
theorem rn_pos (hp : P60 p) (hne : em p = false) : 0 < (rn p).length := by
  have h := rn_fl hp
  have h0 := em_len hne
  rcases e : rn p with _ | ⟨a, l⟩
  · rw [e] at h; rw [← h] at h0; simp at h0
  · simp
/-- The image of a set that stands in bytes is read. -/
theorem cPRd (hne : em p = false) (hp : P60 p) (hT : Ent J TabT) (hxs : xs = A ++ (img p ++ B)) (hi : i = A.length) (h8 : B8 xs) (hb : xs.length ≤ 100000000) (hJ : Ent J (Rs f8 1 ad cap xs) := by exact jA) :
    Tr TP 176 [.slice ad xs.length cap, .int .i64 i] (Ctx J H) (fun z : SetD => .tuple #[pb z.b, .int .i64 ((i + (img p).length : Nat)), .int .i64 0]) (fun _ => True) (fun z => Ctx (sF z p false :: J) H) := by
  rcases (cn_le p).2 with h | h
  · exact cPRd1 h hne hp hT hxs hi h8 hb hJ
  · exact cPRd3 h hne (rn_pos hp hne) hp hT hxs hi h8 hb hJ
end
end
end Go.Proofs.YtimemehaccgmmaaGreatDoor
namespace Go.Proofs.YtimemehaccgmmaaGreatDoor
open Go.RowKit
set_option maxRecDepth 100000
set_option linter.unusedVariables false
set_option linter.unusedSimpArgs false
noncomputable section
theorem pkY_get (l : List Nat) (w t i : Nat) (h : i < t) : pkY l w t (i / 8) / 2 ^ (i % 8) % 2 = (pkB l w i).toNat := by
  have hr := Nat.mod_lt i (show 0 < 8 by omega)
  unfold pkY
  rw [b8_get _ _ hr, show 8 * (i / 8) + i % 8 = i from Nat.div_add_mod i 8]
  simp [h]
theorem b8_lt2 (f : Nat → Bool) (r : Nat) (h : r ≤ 8) (hf : ∀ i, r ≤ i → f i = false) : b8 f < 2 ^ r := by
  have t : ∀ b : Bool, b.toNat ≤ 1 := by decide
  have := t (f 0); have := t (f 1); have := t (f 2); have := t (f 3); have := t (f 4); have := t (f 5); have := t (f 6); have := t (f 7)
  unfold b8
  have h0 : ∀ i, r ≤ i → (f i).toNat = 0 := fun i hi => by rw [hf i hi]; rfl
  have h1 := h0 0; have h2 := h0 1; have h3 := h0 2; have h4 := h0 3; have h5 := h0 4; have h6 := h0 5; have h7 := h0 6; have h8 := h0 7
  match r, h with
  | 0, _ | 1, _ | 2, _ | 3, _ | 4, _ | 5, _ | 6, _ | 7, _ | 8, _ => omega
theorem bit8_val (x r : Nat) (hx : x < 256) (hr : r < 8) : IntKind.u8.wrap (BitVec.ofInt IntKind.u8.bits ((x : Int) / 2 ^ min r IntKind.u8.bits) &&& BitVec.ofInt IntKind.u8.bits 1).toNat = ((x / 2 ^ r % 2 : Nat) : Int) := by
  have e : (x : Int) / 2 ^ min r IntKind.u8.bits = ((x / 2 ^ r : Nat) : Int) := by rw [Nat.min_eq_left (by simp; omega)]; norm_cast
  rw [e]
  have := and_eq .u8 rfl (x / 2 ^ r) 1 (by have := Nat.div_le_self x (2 ^ r); simp only [IntKind.bits]; omega) (by decide)
  rw [show ((1 : Nat) : Int) = 1 from rfl] at this
  rw [this, Nat.and_one_is_mod]
theorem pg_val (l : List Nat) (w t x k : Nat) (h : t / 8 < (pk l w).length) (ht : t < l.length * w) (hk : k ≤ 8) (hb : pkB l w t = x.testBit k) :
    IntKind.u64.wrap (BitVec.ofInt IntKind.u64.bits ((x % 2 ^ k : Nat) : Int) ||| BitVec.ofInt IntKind.u64.bits (IntKind.u64.wrap (IntKind.u8.wrap (BitVec.ofInt IntKind.u8.bits ((pk l w)[t / 8] / 2 ^ min (t % Int.natAbs 8) IntKind.u8.bits) &&& BitVec.ofInt IntKind.u8.bits 1).toNat % 18446744073709551616 * 2 ^ min k IntKind.u64.bits))).toNat = ((x % 2 ^ (k + 1) : Nat) : Int) := by
  have hr := Nat.mod_lt t (show 0 < 8 by omega)
  have hb1 : (x.testBit k).toNat ≤ 1 := Bool.toNat_le _
  have hp : 2 ^ k ≤ 2 ^ 8 := Nat.pow_le_pow_right (by omega) hk
  have hm : (x.testBit k).toNat * 2 ^ k ≤ 1 * 2 ^ 8 := Nat.mul_le_mul hb1 hp
  have h1 : pkY l w (l.length * w) (t / 8) < 256 := b8_lt _
  have h2 := Nat.mod_lt x (Nat.two_pow_pos k)
  have e : ((x.testBit k).toNat : Int) * 2 ^ k = (((x.testBit k).toNat * 2 ^ k : Nat) : Int) := by norm_cast
  have e2 : ((2 : Int) ^ k) = ((2 ^ k : Nat) : Int) := by norm_cast
  simp only [pk, pkT_get]
  rw [show t % Int.natAbs 8 = t % 8 from rfl, bit8_val _ _ h1 hr, pkY_get l w _ t ht, hb, show (((x.testBit k).toNat : Nat) : Int) % 18446744073709551616 = ((x.testBit k).toNat : Int) by omega, Nat.min_eq_left (by simp only [IntKind.bits]; omega)]
  rw [IntWalk.u64_in (((x.testBit k).toNat : Int) * 2 ^ k) (by rw [e]; omega), or_up (k := .u64) rfl (by rw [e2]; omega) (by omega) (by rw [e]; simp only [IntKind.bits]; omega), e]
  rw [Nat.pow_succ, Nat.mod_mul, ← Nat.toNat_testBit, Nat.mul_comm (2 ^ k)]; omega
theorem cPGet {J H} {ad : Option Addr} {cap : Nat} {l : List Nat} {w i : Nat} (hJ : Ent J (Rs f8 1 ad cap (pk l w)) := by exact jA) (hb : l.length ≤ 1000 := by omega) (hw : 1 ≤ w ∧ w ≤ 8 := by omega) (hi : i < l.length := by omega) (hl : l[i] < 2 ^ w) :
    Tr TP 44 [.slice ad (pk l w).length cap, .int .i64 i, .int .i64 w] (Ctx J H) (fun _ : Unit => .int .u64 l[i]) (fun _ => True) (fun _ => Ctx J H) := by
  have hlw : l.length * w ≤ 1000 * 8 := Nat.mul_le_mul hb hw.2
  have hiw : i * w + w ≤ l.length * w := by rw [← Nat.succ_mul]; exact Nat.mul_le_mul_right _ hi
  have hm : (i : Int) * (w : Int) = ((i * w : Nat) : Int) := by simp
  have hn : (pk l w).length = (l.length * w + 7) / 8 := by simp [pk]
  refine en0 Tryz.func44 rfl rfl rfl (addJ hJ (go ?_))
  refine cg cFits fun _ _ => ?_
  refine lp (X := Nat) (fun k => k ≤ w) (fun k => [(0, .slice ad (pk l w).length cap), (1, .int .i64 i), (2, .int .i64 w), (6, .int .u64 (l[i] % 2 ^ k : Nat)), (13, .int .i64 w), (14, .int .i64 k)]) (fun k => Ctx (Rs f8 1 ad cap (pk l w) :: J) H) (fun k => w - k) 0 (by simp) (by simp [Nat.mod_one]) (by simp) fun k hk => ?_
  refine go ?_
  refine br (fun h => ?_) fun h => ?_
  · rw [pg_val l w (i * w + k) l[i] k _ (by omega) (by omega) (pkB_at l (by omega) hi)]
    exact en (k + 1)
  · obtain rfl : k = w := by omega
    rw [Nat.mod_eq_of_lt hl]
    exact rt () trivial rfl (fun _ h => h.ent fun _ j => j.2)
theorem cUnpack {J H} {ad : Option Addr} {cap : Nat} {l : List Nat} {w : Nat} (hJ : Ent J (Rs f8 1 ad cap (pk l w)) := by exact jA) (hb : l.length ≤ 1000 := by omega) (hw : 1 ≤ w ∧ w ≤ 8 := by omega) (hl : ∀ x ∈ l, x < 2 ^ w) :
    Tr TP 175 [.slice ad (pk l w).length cap, .int .i64 l.length, .int .i64 w] (Ctx J H) (fun q : Q2 => .tuple #[.slice q.1 l.length q.2, .int .i64 0]) (fun _ => True) (fun q => Ctx J (sl (fN .u64) 1 111 q.1 q.2 l :: H)) := by
  have hlw : l.length * w ≤ 1000 * 8 := Nat.mul_le_mul hb hw.2
  have hm : (l.length : Int) * (w : Int) = ((l.length * w : Nat) : Int) := by simp
  have hn : (pk l w).length = (l.length * w + 7) / 8 := by simp [pk]
  refine en0 Tryz.func175 rfl rfl rfl (addJ hJ (go ?_))
  refine cg cFits fun _ _ => ?_
  refine cg cSize fun _ _ => ?_
  have h0 : l.length * w % 8 ≠ 0 → ∀ h : l.length * w / 8 < (pk l w).length, (pk l w)[l.length * w / 8] / 2 ^ min (l.length * w % Int.natAbs 8) IntKind.u8.bits = 0 := by
    intro h8 h
    have hr := Nat.mod_lt (l.length * w) (show 0 < 8 by omega)
    have h1 : pkY l w (l.length * w) (l.length * w / 8) < 2 ^ (l.length * w % 8) := by
      unfold pkY
      refine b8_lt2 _ _ (by omega) fun r h2 => ?_
      simp; omega
    simp only [pk, pkT_get]
    rw [show l.length * w % Int.natAbs 8 = l.length * w % 8 from rfl, Nat.min_eq_left (by simp only [IntKind.bits]; omega)]
    have e2 : ((2 : Int) ^ (l.length * w % 8)) = ((2 ^ (l.length * w % 8) : Nat) : Int) := by norm_cast
    rw [e2]
    exact Int.ediv_eq_zero_of_lt (by omega) (by omega)
  refine br (fun h => ?_) fun h => ?_
  have h8 : l.length * w % 8 ≠ 0 := by omega
  have hi : l.length * w / 8 < (pk l w).length := by omega
  have h0 := h0 h8 hi
  refine gbt ?_
  rw [show (((l.length * w + 7) / 8 : Nat) : Int) - 1 = ((l.length * w / 8 : Nat) : Int) by omega]
  refine go ?_
  all_goals
    refine mk (fN .u64) 0 fun b => ?_
    refine go ?_
    have e0 : ∀ k ≤ l.length, (l.take k ++ List.replicate (l.length - k) 0).length = l.length := fun k hk => by simp; omega
    refine lp (X := Nat) (fun k => k ≤ l.length) (fun k => [(0, .slice ad (pk l w).length cap), (2, .int .i64 w), (9, .slice (some ⟨b, 0, none⟩) l.length l.length), (49, .int .i64 l.length), (50, .int .i64 k)]) (fun k => Ctx (Rs f8 1 ad cap (pk l w) :: J) (sl (fN .u64) 1 111 (some ⟨b, 0, none⟩) l.length (l.take k ++ List.replicate (l.length - k) 0) :: H)) (fun k => l.length - k) 0 (by simp) (by simp) (by simp) fun k hk => ?_
    refine go ?_
    refine br (fun h => ?_) fun h => ?_
    · refine cg (cPGet (i := k) (hl := hl _ (by simp))) fun _ _ => ?_
      have e1 : (l.take k ++ List.replicate (l.length - k) 0).set k (l[k]'(by omega)) = l.take (k + 1) ++ List.replicate (l.length - (k + 1)) 0 := take_set (by omega) 0
      exact en (k + 1) (by omega) rfl (fun _ h => by rw [← e1]; exact h)
    · obtain rfl : k = l.length := by omega
      simp only [List.take_length, Nat.sub_self, List.replicate_zero, List.append_nil]
      exact rt (some ⟨b, 0, none⟩, l.length) trivial rfl (fun _ h => h.ent fun _ j => j.2)
end
end Go.Proofs.YtimemehaccgmmaaGreatDoor
