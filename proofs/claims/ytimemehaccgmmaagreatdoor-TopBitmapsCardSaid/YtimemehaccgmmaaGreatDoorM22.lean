/-
  Parts of the walks and their plain laws (W7 R33 R34 R35 R36). No condition.
-/
import Derived.Test.YtimemehaccgmmaaGreatDoorM21
import Derived.Test.YtimemehaccgmmaaGreatDoorM09
import Derived.Test.YtimemehaccgmmaaGreatDoorM11
namespace Go.Proofs.YtimemehaccgmmaaGreatDoor
open Go.RowKit
set_option maxRecDepth 100000
set_option linter.unusedVariables false
set_option linter.unusedSimpArgs false
noncomputable section
abbrev fj := fN .i64
theorem cMayF {J H} {n m : Nat} (h : (1 ≤ m ∨ n = 0) ∧ m ≤ 1000 := by omega) : Tr TP 142 [.int .i64 n, .int .i64 m] (Ctx J H) (fun _ : Unit => .bool true) (fun _ => True) (fun _ => Ctx J H) := by
  refine en0 Tryz.func142 rfl rfl rfl (go ?_)
  refine br (fun h => ?_) fun h => ?_
  · exact rt () trivial rfl (fun _ h => h)
  · obtain rfl : n = 0 := by omega
    exact rt () trivial rfl (fun _ h => h)
theorem cWid {J H} {m : Nat} (h : m ≤ 200 := by omega) : Tr TP 143 [.int .i64 m] (Ctx J H) (fun _ : Unit => .int .i64 (wid m)) (fun _ => True) (fun _ => Ctx J H) := by
  refine en0 Tryz.func143 rfl rfl rfl (go ?_)
  rw [show (if (m : Int) - 1 < 0 then 0 else (m : Int) - 1) = ((m - 1 : Nat) : Int) by split <;> omega]
  refine cg cWidth fun _ _ => ?_
  exact rt () trivial rfl (fun _ h => h)
/-- The index of ids. -/
def Fwd (x : Nat × Q2) (ids : List Nat) (many : Nat) : List (World → Prop) :=
  [(pt x.1 110 [.int .i64 ids.length, .int .i64 many, .int .i64 (wid many), .slice x.2.1 (pk ids (wid many)).length x.2.2]).A, Rs f8 1 x.2.1 x.2.2 (pk ids (wid many))]
theorem wid_le {m : Nat} (h : m ≤ 200) : 1 ≤ wid m ∧ wid m ≤ 8 := by
  have : bl (m - 1) ≤ 8 := bl_le.2 (by omega)
  unfold wid; omega
theorem ids_lt {m x : Nat} (h : x < m) : x < 2 ^ wid m := by
  have h1 : bl (m - 1) ≤ wid m := by unfold wid; omega
  have := bl_le.1 h1; omega
theorem cFOf {J H} {ad : Option Addr} {cap : Nat} {ids : List Nat} {m : Nat} (hJ : Ent J (Rs fj 1 ad cap ids) := by exact jA) (hb : ids.length ≤ 1000 := by omega) (hm : m ≤ 200 := by omega) (hl : ∀ x ∈ ids, x < m) (h0 : 1 ≤ m ∨ ids = []) :
    Tr TP 74 [.slice ad ids.length cap, .int .i64 m] (Ctx J H) (fun x : Nat × Q2 => .tuple #[pb x.1, .int .i64 0]) (fun _ => True) (fun x => Ctx (Bn (Fwd x ids m) :: J) H) := by
  refine en0 Tryz.func74 rfl rfl rfl (addJ hJ (go ?_))
  have h0' : 1 ≤ m ∨ ids.length = 0 := by rcases h0 with h | h; exact .inl h; exact .inr (by simp [h])
  have hw : 1 ≤ wid m ∧ wid m ≤ 8 := wid_le hm
  refine cg cMayF fun _ _ => ?_
  refine mk (fN .u64) 0 fun b => ?_
  refine go ?_
  refine lp (X := Nat) (fun k => k ≤ ids.length) (fun k => [(0, .slice ad ids.length cap), (1, .int .i64 m), (6, .slice (some ⟨b, 0, none⟩) ids.length ids.length), (20, .slice ad ids.length cap), (21, .int .i64 ids.length), (22, .int .i64 k)]) (fun k => Ctx (Rs fj 1 ad cap ids :: J) (sl (fN .u64) 1 111 (some ⟨b, 0, none⟩) ids.length (ids.take k ++ List.replicate (ids.length - k) 0) :: H)) (fun k => ids.length - k) 0 (by simp) (by simp) (by simp) fun k hk => ?_
  refine go ?_
  refine ⟨fun h => ?_, fun h => ?_⟩
  · have hx := hl (ids[k]'(by omega)) (by simp)
    refine go ?_
    have e1 : (ids.take k ++ List.replicate (ids.length - k) 0).set k (ids[k]'(by omega)) = ids.take (k + 1) ++ List.replicate (ids.length - (k + 1)) 0 := take_set (by omega) 0
    exact en (k + 1) (by omega) rfl (fun _ h => by rw [← e1]; exact h)
  · obtain rfl : k = ids.length := by omega
    simp only [List.take_length, Nat.sub_self, List.replicate_zero, List.append_nil]
    refine fz (go ?_)
    refine cg cWid fun _ _ => ?_
    refine cg (cPack (l := ids) (w := wid m) (hl := fun x hx => ids_lt (hl x hx))) fun q _ x => ?_
    refine fzp (fz ?_)
    exact rt (x, q) trivial rfl (fun _ h => h.ent fun _ j => ⟨⟨j.2.1, j.1, trivial⟩, j.2.2.2.2⟩)
section
variable {J : List (World → Prop)} {H : List RC} {x : Nat × Q2} {ids : List Nat} {m : Nat}
theorem cFNone (hJ : Ent J (Bn (Fwd x ids m)) := by exact jA) (hm : m ≤ 200 := by omega) : Tr TP 43 [pb x.1] (Ctx J H) (fun _ : Unit => .bool false) (fun _ => True) (fun _ => Ctx J H) := by
  have hw := wid_le hm
  refine en0 Tryz.func43 rfl rfl rfl (addS2 hJ ?_)
  refine go ?_
  rw [show decide ((wid m : Int) = 0) = false by simp; omega]
  exact rt () trivial rfl (fun _ h => h.ent fun _ j => j.2.2.2)
theorem cFLen (hJ : Ent J (Bn (Fwd x ids m)) := by exact jA) (hm : m ≤ 200 := by omega) : Tr TP 181 [pb x.1] (Ctx J H) (fun _ : Unit => .int .i64 ids.length) (fun _ => True) (fun _ => Ctx J H) := by
  have hw := wid_le hm
  refine en0 Tryz.func181 rfl rfl rfl (addS2 hJ ?_)
  refine go ?_
  refine cg cFNone fun _ _ => ?_
  exact rt () trivial rfl (fun _ h => h.ent fun _ j => j.2.2.2)
theorem cFMany (hJ : Ent J (Bn (Fwd x ids m)) := by exact jA) (hm : m ≤ 200 := by omega) : Tr TP 102 [pb x.1] (Ctx J H) (fun _ : Unit => .int .i64 m) (fun _ => True) (fun _ => Ctx J H) := by
  have hw := wid_le hm
  refine en0 Tryz.func102 rfl rfl rfl (addS2 hJ ?_)
  refine go ?_
  refine cg cFNone fun _ _ => ?_
  exact rt () trivial rfl (fun _ h => h.ent fun _ j => j.2.2.2)
theorem cFGet {i : Nat} (hi : i < ids.length := by omega) (hl : ids[i] < m := by omega) (hJ : Ent J (Bn (Fwd x ids m)) := by exact jA) (hm : m ≤ 200 := by omega) (hb : ids.length ≤ 1000 := by omega) : Tr TP 11 [pb x.1, .int .i64 i] (Ctx J H) (fun _ : Unit => .tuple #[.int .i64 ids[i], .int .i64 0]) (fun _ => True) (fun _ => Ctx J H) := by
  have hw := wid_le hm
  refine en0 Tryz.func11 rfl rfl rfl (addS2 hJ ?_)
  refine go ?_
  refine cg cFNone fun _ _ => ?_
  refine cg (cPGet (i := i) (hl := ids_lt hl)) fun _ _ => ?_
  exact rt () trivial rfl (fun _ h => h.ent fun _ j => j.2.2.2)
def fwdB (ids : List Nat) (m : Nat) : List Int := le 4 ids.length ++ le 4 m ++ [(wid m : Int)] ++ pk ids (wid m)
theorem cFBytes (hJ : Ent J (Bn (Fwd x ids m)) := by exact jA) (hm : m ≤ 200 := by omega) (hb : ids.length ≤ 1000 := by omega) : Tr TP 76 [pb x.1] (Ctx J H) (fun q : Q2 => .slice q.1 (fwdB ids m).length q.2) (fun _ => True) (fun q => Ctx J (sl f8 1 5 q.1 q.2 (fwdB ids m) :: H)) := by
  have hw := wid_le hm
  have hlw : ids.length * wid m ≤ 1000 * 8 := Nat.mul_le_mul hb hw.2
  refine en0 Tryz.func76 rfl rfl rfl (addS2 hJ (addJ (fun w _ => Rs.nil0 f8 1 none w) ?_))
  refine go ?_
  refine cg cFNone fun _ _ => ?_
  refine cg (cA32 (xs := [])) fun q _ => ?_
  refine fzc (cg (cA32 (xs := [] ++ le 4 ids.length)) fun q _ => ?_)
  intro b q
  refine dpJ (ys := pk ids (wid m)) jA (by simp [pk]; omega) fun q => ?_
  refine go ?_
  exact rt q trivial rfl (fun _ h => h.ent fun _ j => j.2.2.2.2.2)
end
end
end Go.Proofs.YtimemehaccgmmaaGreatDoor
namespace Go.Proofs.YtimemehaccgmmaaGreatDoor
open Go.RowKit
set_option maxRecDepth 100000
set_option linter.unusedVariables false
set_option linter.unusedSimpArgs false
noncomputable section
/-- A set as an element: where it lies, what is in it. -/
abbrev SP := SetD × (Nat → Bool)
def fSP (z : SP) : List Value := [pb z.1.b]
instance : Lies fSP 1 := ⟨fun _ => rfl, fun x v h => by simp [fSP] at h; subst h; rfl, by decide⟩
def sP (z : SP) : World → Prop := sF z.1 z.2 false
/-- An index: of each id a set. -/
def IvF (t : TypeId) (b : Nat) (q : Q2) (X : List SP) : List (World → Prop) := [(pt b t [.slice q.1 X.length q.2]).A, Rs fSP 1 q.1 q.2 X, AllE sP X]
/-- The rows that have an id. -/
def pI (ids : List Nat) (id : Nat) : Nat → Bool := fun i => ids[i]? == some id
section
variable {ids : List Nat} {m id k : Nat}
theorem pI_60 (h : ids.length ≤ 60) : P60 (pI ids id) := fun i hi => by
  unfold pI
  rw [List.getElem?_eq_none (by omega)]; rfl
theorem pI_ne (h : ids.length ≤ 60) (hm : id ∈ ids) : em (pI ids id) = false := by
  obtain ⟨i, hi, e⟩ := List.getElem_of_mem hm
  have h1 : i ∈ fl (pI ids id) 64 := mem_fl.2 ⟨by omega, by simp [pI, hi, e]⟩
  unfold em
  cases e2 : fl (pI ids id) 64 with
  | nil => rw [e2] at h1; cases h1
  | cons a l => rfl
theorem pI_t (hk : k < ids.length) (e : ids[k] = id) : fl (pI ids id) (k + 1) = fl (pI ids id) k ++ [k] := fl_t (by simp [pI, hk, e])
theorem pI_f (hk : k < ids.length) (e : ids[k] ≠ id) : fl (pI ids id) (k + 1) = fl (pI ids id) k := fl_f (by simp [pI, hk, e])
theorem pI_end (h : ids.length ≤ 60) : fl (pI ids id) ids.length = fl (pI ids id) 64 := (fl_same (by omega) fun y h1 _ => by simp [pI, h1]).symm
end
section
variable {J : List (World → Prop)} {H : List RC} {ad : Option Addr} {cap m : Nat} {ids : List Nat}
set_option maxHeartbeats 4000000 in
theorem cIvOf (hl : ids.length ≤ 60) (hm : m ≤ 60) (hlt : ∀ x ∈ ids, x < m) (hall : ∀ id < m, id ∈ ids) (hT : Ent J TabT) (hJ : Ent J (Rs fj 1 ad cap ids) := by exact jA) :
    Tr TP 77 [.slice ad ids.length cap, .int .i64 m] (Ctx J H) (fun x : Nat × Q2 × List SP => .tuple #[pb x.1, .int .i64 0]) (fun x => x.2.2.map (·.2) = (List.range m).map (pI ids)) (fun x => Ctx (Bn (IvF 126 x.1 x.2.1 x.2.2) :: J) H) := by
  refine en0 Tryz.func77 rfl rfl rfl (addJ hJ (go ?_))
  refine mk (fNs (α := Nat)) ((none, 0), []) fun b0 => ?_
  refine pre (fun w h => (h.nlI (f := fq) (sz := 1) (e := 85) m).perm (List.perm_middle (a := sl (fNs (α := Nat)) 1 256 (some ⟨b0, 0, none⟩) m (List.replicate m ((none, 0), []))))) ?_
  refine go ?_
  refine lp (X := Nat × List (Q2 × List Nat)) (fun x => x.1 ≤ ids.length ∧ x.2.length = m ∧ ∀ j (h : j < x.2.length), (x.2[j]).2 = fl (pI ids j) x.1) (fun (k, A) => [(1, .int .i64 m), (6, .slice (some ⟨b0, 0, none⟩) m m), (24, .slice ad ids.length cap), (25, .int .i64 ids.length), (26, .int .i64 k)])
    (fun (k, A) => Ctx (Rs fj 1 ad cap ids :: J) (sl (fNs (α := Nat)) 1 256 (some ⟨b0, 0, none⟩) m A :: (inn fq 1 85 A ++ H))) (fun x => ids.length - x.1) (0, List.replicate m ((none, 0), [])) ⟨by dsimp only; omega, by simp, fun j h => by simp [fl]⟩ rfl (fun _ h => h) fun ⟨k, A⟩ ⟨hk, hA', hAj⟩ => ?_
  dsimp only at hk hA' hAj
  refine go ?_
  refine ⟨fun h1 => ?_, fun h1 => ?_⟩
  · have hk1 : k < ids.length := by omega
    have hid := hlt ids[k] (List.getElem_mem hk1)
    have hiA : ids[k] < A.length := by omega
    have hbl : A[ids[k]].2.length ≤ 64 := by rw [hAj _ hiA]; exact Nat.le_trans fl_len (by omega)
    refine pre (fun w h => (Ctx.perm h ((inn_pick (f := fq) (sz := 1) (e := 85) (A := A) (i := ids[k]) (H := H) (by omega)).cons _))) ?_
    refine go ?_
    intro b2 q
    refine hA0 rfl rfl (oSe0 (k := 0) (y := (q, A[ids[k]].2 ++ [k])) rfl rfl rfl rfl hiA rfl rfl rfl rfl) rfl ?_
    refine go ?_
    refine en (k + 1, A.set ids[k] (q, A[ids[k]].2 ++ [k])) ⟨⟨by dsimp only; omega, by simpa using hA', fun j hj => ?_⟩, by dsimp only; omega⟩ rfl (fun _ h => Ctx.perm h ((inn_put hiA (q, A[ids[k]].2 ++ [k])).cons _))
    dsimp only at hj ⊢
    rw [List.length_set] at hj
    rw [List.getElem_set]
    split
    · rename_i e
      subst e
      rw [pI_t hk1 rfl, hAj _ hiA]
    · rename_i e
      rw [pI_f hk1 e, hAj _ hj]
  · obtain rfl : k = ids.length := by omega
    subst hA'
    refine pre (fun w h => (Ctx.perm h (List.perm_middle (a := sl (fNs (α := Nat)) 1 256 (some ⟨b0, 0, none⟩) A.length A)).symm).fzI) ?_
    refine fz (go ?_)
    intro b1
    refine nwS fSP 1 123 none ?_
    have hAe : ∀ j (h : j < A.length), A[j].2 = fl (pI ids j) 64 := fun j h => by rw [hAj j h, pI_end hl]
    refine lp (X := Nat × Q2 × List SP) (fun x => x.1 ≤ A.length ∧ x.2.2.length = x.1 ∧ x.2.2.map (·.2) = (List.range x.1).map (pI ids)) (fun (k, q, X) => [(1, .int .i64 A.length), (6, .slice (some ⟨b0, 0, none⟩) A.length A.length), (9, pb b1), (52, .int .i64 A.length), (53, .int .i64 k)])
      (fun (k, q, X) => Ctx (AllE sP X :: Rs (fNs (α := Nat)) 1 (some ⟨b0, 0, none⟩) A.length A :: AllR fq 1 A :: Rs fj 1 ad cap ids :: J) (sl fSP 1 123 q.1 q.2 X :: pt b1 126 [.slice q.1 X.length q.2] :: H)) (fun x => A.length - x.1) (0, (none, 0), []) (by simp) rfl (fun _ h => h.ent fun _ j => ⟨(fun _ h => nomatch h), j⟩) fun ⟨k, q, X⟩ ⟨hk, hXl, hX⟩ => ?_
    dsimp only at hk hX hXl
    refine go ?_
    refine ⟨fun h2 => ?_, fun h2 => ?_⟩
    · have hiX : k < A.length := by omega
      have e := hAe _ hiX
      refine go ?_
      rw [e]
      refine cg (cSetOf (pI_ne hl (hall _ hiX)) (pI_60 hl) (fun w j => hT w j.2.2.2.2) (fun w j => by rw [← e]; exact j.2.2.1.at hiX)) fun z _ => ?_
      intro b3
      refine dp1 (f := fSP) (z, pI ids k) fun q2 => ?_
      refine go ?_
      exact en (k + 1, q2, X ++ [(z, pI ids k)]) ⟨⟨by dsimp only; omega, by simp [hXl], by simp [List.range_succ, hX]⟩, by dsimp only; omega⟩ rfl (fun _ h => h.ent fun _ j => ⟨j.2.1.snoc j.1, j.2.2⟩)
    · obtain rfl : k = A.length := by omega
      refine fz (fzp (go ?_))
      exact rt (b1, q, X) hX rfl (fun _ h => h.ent fun _ j => ⟨⟨j.1, j.2.1, j.2.2.1, trivial⟩, j.2.2.2.2.2.2⟩)
end
end
end Go.Proofs.YtimemehaccgmmaaGreatDoor
namespace Go.Proofs.YtimemehaccgmmaaGreatDoor
open Go.RowKit
set_option maxRecDepth 100000
set_option linter.unusedVariables false
set_option linter.unusedSimpArgs false
noncomputable section
/-- The images of sets, one behind the other. -/
def imgs (ps : List (Nat → Bool)) : List Int := ps.flatMap img
/-- Sets that are told as images. -/
structure POk (ps : List (Nat → Bool)) : Prop where
  b : ps.length ≤ 60
  p : ∀ p ∈ ps, P60 p ∧ em p = false
def unp (ps : List (Nat → Bool)) (k : Nat) : Nat → Bool := fun i => (ps.take k).any fun p => p i
def lns (ps : List (Nat → Bool)) : Nat := (ps.map fun p => (fl p 64).length).sum
section
variable {ps : List (Nat → Bool)} {k : Nat}
theorem flat_len {α : Type} {g : α → List Int} {c : Nat} : ∀ {l : List α}, (∀ x ∈ l, (g x).length ≤ c) → (l.flatMap g).length ≤ l.length * c
  | [], _ => by simp
  | x :: l, h => by
    have := flat_len (l := l) fun y hy => h y (List.mem_cons_of_mem _ hy)
    have h1 := h x (List.mem_cons_self ..)
    simp only [List.flatMap_cons, List.length_append, List.length_cons, Nat.succ_mul]
    omega
theorem POk.take (h : POk ps) (k : Nat) : POk (ps.take k) := ⟨by have := h.b; simp; omega, fun p hp => h.p p (List.mem_of_mem_take hp)⟩
theorem POk.len (h : POk ps) : (imgs ps).length ≤ 24960 := by
  have := flat_len (g := img) (c := 416) (l := ps) fun p hp => img_len (h.p p hp).1
  have := h.b
  unfold imgs; omega
theorem imgs_B8 : B8 (imgs ps) := fun y hy => by
  obtain ⟨p, hp, h⟩ := List.mem_flatMap.1 hy
  exact img_B8 y h
theorem imgs_succ (h : k < ps.length) : imgs (ps.take (k + 1)) = imgs (ps.take k) ++ img ps[k] := by
  unfold imgs
  rw [← List.take_append_getElem h, List.flatMap_append]; simp
theorem imgs_split (h : k < ps.length) : imgs ps = imgs (ps.take k) ++ (img ps[k] ++ imgs (ps.drop (k + 1))) := by
  unfold imgs
  conv => lhs; rw [← List.take_append_drop k ps, List.drop_eq_getElem_cons h]
  rw [List.flatMap_append, List.flatMap_cons]
theorem lns_succ (h : k < ps.length) : lns (ps.take (k + 1)) = lns (ps.take k) + (fl ps[k] 64).length := by
  unfold lns
  rw [← List.take_append_getElem h, List.map_append, List.sum_append]; simp
theorem unp_succ (h : k < ps.length) : unp ps (k + 1) = fun i => unp ps k i || ps[k] i := by
  funext i
  unfold unp
  rw [← List.take_append_getElem h, List.any_append]; simp
theorem unp_60 (h : POk ps) : P60 (unp ps k) := fun i hi => by
  unfold unp
  rw [List.any_eq_false]
  intro p hp
  rw [(h.p p (List.mem_of_mem_take hp)).1 i hi]; simp
theorem lns_le (h : POk ps) (k : Nat) : lns (ps.take k) ≤ 64 * 60 := by
  have h1 := (h.take k).b
  unfold lns
  have key : ∀ l : List (Nat → Bool), (l.map fun p => (fl p 64).length).sum ≤ 64 * l.length := by
    intro l
    induction l with
    | nil => simp
    | cons p l ih =>
      have : (fl p 64).length ≤ 64 := fl_len
      simp only [List.map_cons, List.sum_cons, List.length_cons]; omega
  have := key (ps.take k)
  omega
theorem lt_len {r : Nat} (h : r ≤ 64) : (fl (fun i => decide (i < r)) 64).length = r := by
  have key : ∀ n, (fl (fun i => decide (i < r)) n).length = min n r := by
    intro n
    induction n with
    | zero => simp [fl]
    | succ n ih =>
      by_cases e : n < r
      · rw [fl_t (by simp [e]), List.length_append, ih]; simp; omega
      · rw [fl_f (by simp [e]), ih]; omega
  rw [key]; omega
end
section
variable {J : List (World → Prop)} {H : List RC} {ad : Option Addr} {cap m b r : Nat} {q : Q2} {X : List SP} {ps : List (Nat → Bool)}
theorem cIvLen (hJ : Ent J (Bn (IvF 126 b q X)) := by exact jA) : Tr TP 50 [pb b] (Ctx J H) (fun _ : Unit => .int .i64 X.length) (fun _ => True) (fun _ => Ctx J H) := by
  refine en0 Tryz.func50 rfl rfl rfl (addS3 hJ ?_)
  refine go ?_
  exact rt () trivial rfl (fun _ h => h.ent fun _ j => j.2.2.2.2)
theorem cRgLen (hJ : Ent J (Bn (IvF 130 b q X)) := by exact jA) : Tr TP 53 [pb b] (Ctx J H) (fun _ : Unit => .int .i64 X.length) (fun _ => True) (fun _ => Ctx J H) := by
  refine en0 Tryz.func53 rfl rfl rfl (addS3 hJ ?_)
  refine go ?_
  exact rt () trivial rfl (fun _ h => h.ent fun _ j => j.2.2.2.2)
set_option maxHeartbeats 2000000 in
theorem cIvBytes (hX : X.map (·.2) = ps) (h : POk ps) (hT : Ent J TabT) (hJ : Ent J (Bn (IvF 126 b q X)) := by exact jA) :
    Tr TP 14 [pb b] (Ctx J H) (fun s : Q2 => .slice s.1 (imgs ps).length s.2) (fun _ => True) (fun s => Ctx J (sl f8 1 5 s.1 s.2 (imgs ps) :: H)) := by
  have hl : X.length = ps.length := by rw [← hX]; simp
  have hb := h.b
  refine en0 Tryz.func14 rfl rfl rfl (addS3 hJ ?_)
  refine go ?_
  refine cg (cIvLen (q := q) (X := X)) fun _ _ => ?_
  refine nwS f8 1 5 none ?_
  refine lp (X := Nat × Q2) (fun x => x.1 ≤ X.length) (fun (k, s) => [(0, pb b), (3, .slice s.1 (imgs (ps.take k)).length s.2), (6, .int .i64 X.length), (7, .int .i64 k)])
    (fun (k, s) => Ctx ((pt b 126 [.slice q.1 X.length q.2]).A :: Rs fSP 1 q.1 q.2 X :: AllE sP X :: Bn (IvF 126 b q X) :: J) (sl f8 1 5 s.1 s.2 (imgs (ps.take k)) :: H)) (fun x => X.length - x.1) (0, none, 0) (by simp) rfl (fun _ h => h) fun ⟨k, s⟩ hk => ?_
  dsimp only at hk
  have hlk := (h.take k).len
  refine go ?_
  refine ⟨fun h1 => ?_, fun h1 => ?_⟩
  · have hk1 : k < ps.length := by omega
    have e2 : X[k].2 = ps[k] := by simp [← hX]
    have hlk2 := (h.take (k + 1)).len
    rw [imgs_succ hk1, List.length_append] at hlk2
    refine go ?_
    refine cg (cWr (x := X[k].1) (p := ps[k]) (h.p _ (List.getElem_mem hk1)).2 (h.p _ (List.getElem_mem hk1)).1 (fun w j => hT w j.2.2.2.2) (fun w j => by have := j.2.2.1.at (i := k) (by omega); unfold sP at this; rwa [e2] at this)) fun s2 _ => ?_
    refine fz (go ?_)
    refine apJ (ys := img ps[k]) je0 (by omega) fun s3 => ?_
    rw [← imgs_succ hk1]
    refine go ?_
    exact en (k + 1, s3) (by dsimp only; omega) rfl (fun _ h => h.ent fun _ j => j.2)
  · obtain e : k = ps.length := by omega
    subst e
    refine go ?_
    dsimp only
    rw [List.take_length]
    exact rt s trivial rfl (fun _ h => h.ent fun _ j => j.2.2.2.2)
set_option maxHeartbeats 2000000 in
theorem cRgBytes (hX : X.map (·.2) = ps) (h : POk ps) (hT : Ent J TabT) (hJ : Ent J (Bn (IvF 130 b q X)) := by exact jA) :
    Tr TP 17 [pb b] (Ctx J H) (fun s : Q2 => .slice s.1 (imgs ps).length s.2) (fun _ => True) (fun s => Ctx J (sl f8 1 5 s.1 s.2 (imgs ps) :: H)) := by
  have hl : X.length = ps.length := by rw [← hX]; simp
  have hb := h.b
  refine en0 Tryz.func17 rfl rfl rfl (addS3 hJ ?_)
  refine go ?_
  refine cg (cRgLen (q := q) (X := X)) fun _ _ => ?_
  refine nwS f8 1 5 none ?_
  refine lp (X := Nat × Q2) (fun x => x.1 ≤ X.length) (fun (k, s) => [(0, pb b), (3, .slice s.1 (imgs (ps.take k)).length s.2), (6, .int .i64 X.length), (7, .int .i64 k)])
    (fun (k, s) => Ctx ((pt b 130 [.slice q.1 X.length q.2]).A :: Rs fSP 1 q.1 q.2 X :: AllE sP X :: Bn (IvF 130 b q X) :: J) (sl f8 1 5 s.1 s.2 (imgs (ps.take k)) :: H)) (fun x => X.length - x.1) (0, none, 0) (by simp) rfl (fun _ h => h) fun ⟨k, s⟩ hk => ?_
  dsimp only at hk
  have hlk := (h.take k).len
  refine go ?_
  refine ⟨fun h1 => ?_, fun h1 => ?_⟩
  · have hk1 : k < ps.length := by omega
    have e2 : X[k].2 = ps[k] := by simp [← hX]
    have hlk2 := (h.take (k + 1)).len
    rw [imgs_succ hk1, List.length_append] at hlk2
    refine go ?_
    refine cg (cWr (x := X[k].1) (p := ps[k]) (h.p _ (List.getElem_mem hk1)).2 (h.p _ (List.getElem_mem hk1)).1 (fun w j => hT w j.2.2.2.2) (fun w j => by have := j.2.2.1.at (i := k) (by omega); unfold sP at this; rwa [e2] at this)) fun s2 _ => ?_
    refine fz (go ?_)
    refine apJ (ys := img ps[k]) je0 (by omega) fun s3 => ?_
    rw [← imgs_succ hk1]
    refine go ?_
    exact en (k + 1, s3) (by dsimp only; omega) rfl (fun _ h => h.ent fun _ j => j.2)
  · obtain e : k = ps.length := by omega
    subst e
    refine go ?_
    dsimp only
    rw [List.take_length]
    exact rt s trivial rfl (fun _ h => h.ent fun _ j => j.2.2.2.2)
end
end
end Go.Proofs.YtimemehaccgmmaaGreatDoor
namespace Go.Proofs.YtimemehaccgmmaaGreatDoor
open Go.RowKit
set_option maxRecDepth 100000
set_option linter.unusedVariables false
set_option linter.unusedSimpArgs false
noncomputable section
section
variable {J : List (World → Prop)} {H : List RC} {ad : Option Addr} {cap m b r : Nat} {q : Q2} {X : List SP} {ps : List (Nat → Bool)} {xs : List Int}
theorem unp0 : unp ps 0 = ff := by funext i; simp [unp, ff]
theorem em_ff0 : em ff = true := rfl
set_option maxHeartbeats 8000000 in
theorem cIvRead (h : POk ps) (hr : r ≤ 60) (hs1 : lns ps = r) (hu : unp ps ps.length = fun i => decide (i < r)) (hxs : xs = imgs ps) (hT : Ent J TabT) (hJ : Ent J (Rs f8 1 ad cap xs) := by exact jA) :
    Tr TP 98 [.slice ad xs.length cap, .int .i64 r, .int .i64 ps.length] (Ctx J H) (fun x : Nat × Q2 × List SP => .tuple #[pb x.1, .int .i64 0]) (fun x => x.2.2.map (·.2) = ps) (fun x => Ctx (Bn (IvF 126 x.1 x.2.1 x.2.2) :: J) H) := by
  have hb := h.b
  have hlx := h.len
  have h8 : B8 xs := hxs ▸ imgs_B8
  have hlx' : xs.length ≤ 24960 := by rw [hxs]; exact hlx
  refine en0 Tryz.func98 rfl rfl rfl (addJ hJ (go ?_))
  intro b1
  refine cg cNewS fun b2 _ => ?_
  refine fzp ?_
  refine nwS fSP 1 123 none ?_
  refine lp (X := Nat × Q2 × List SP × SetD) (fun x => x.1 ≤ ps.length ∧ x.2.2.1.length = x.1 ∧ x.2.2.1.map (·.2) = ps.take x.1) (fun (k, q, X, z) => [(0, .slice ad xs.length cap), (1, .int .i64 r), (8, pb b1), (9, pb z.b), (10, .int .i64 (lns (ps.take k) : Nat)), (11, .int .i64 ((imgs (ps.take k)).length : Nat)), (32, .int .i64 ps.length), (33, .int .i64 k)])
    (fun (k, q, X, z) => Ctx (sF z (unp ps k) (em (unp ps k)) :: AllE sP X :: Rs f8 1 ad cap xs :: J) (sl fSP 1 123 q.1 q.2 X :: pt b1 126 [.slice q.1 X.length q.2] :: H)) (fun x => ps.length - x.1) (0, (none, 0), [], ⟨b2, (none, 0), (none, 0), (none, 0)⟩) (by simp) rfl (fun _ h => h.ent fun _ j => ⟨by rw [unp0]; exact ⟨j.1, rfl, trivial⟩, (fun _ h => nomatch h), j.2⟩) fun ⟨k, q, X, z⟩ ⟨hk, hXl, hX⟩ => ?_
  dsimp only at hk hXl hX
  have hlk := (h.take k).len
  have hnk := lns_le h k
  refine go ?_
  refine ⟨fun h1 => ?_, fun h1 => ?_⟩
  · have hk1 : k < ps.length := by omega
    obtain ⟨hp, hne⟩ := h.p _ (List.getElem_mem hk1)
    have hfl : (fl ps[k] 64).length ≤ 64 := fl_len
    refine go ?_
    refine cg (cPRd (p := ps[k]) hne hp (fun w j => hT w j.2.2.2) (hxs.trans (imgs_split hk1)) rfl h8 (by omega)) fun y _ => ?_
    rw [show (imgs (ps.take k)).length + (img ps[k]).length = (imgs (ps.take (k + 1))).length by rw [imgs_succ hk1, List.length_append]]
    intro b3
    refine ap1 (f := fSP) (y, ps[k]) fun q2 => ?_
    refine go ?_
    refine cg (cSOr (x := z) (y := y) (p := unp ps k) (q := ps[k]) (e := em (unp ps k)) (unp_60 h) hp (fun w j => hT w j.2.2.2.2) (fun w j => j.2.1) (fun w j => j.1)) fun z2 _ => ?_
    rw [← unp_succ hk1]
    refine cg (cSLen (x := y) (p := ps[k]) (e := false) hp (fun w j => j.2.1)) fun _ _ => ?_
    rw [show ((lns (ps.take k) : Nat) : Int) + ((fl ps[k] 64).length : Int) = ((lns (ps.take (k + 1)) : Nat) : Int) by rw [lns_succ hk1]; omega]
    exact en (k + 1, q2, X ++ [(y, ps[k])], z2) ⟨⟨by dsimp only; omega, by simp [hXl], by simp [hX]⟩, by dsimp only; omega⟩ rfl (fun _ h => h.ent fun _ j => ⟨j.1, j.2.2.2.1.snoc j.2.1, j.2.2.2.2⟩)
  · obtain rfl : k = ps.length := by omega
    rw [List.take_length] at hX
    have hl2 : (fl (unp ps ps.length) 64).length = r := by rw [hu]; exact lt_len (by omega)
    refine go ?_
    dsimp only
    rw [List.take_length, ← hxs, hs1]
    refine ⟨fun h => absurd rfl h, fun _ => go ?_⟩
    refine cg (cSLen (x := z) (p := unp ps ps.length) (e := em (unp ps ps.length)) (unp_60 h) (fun w j => j.1)) fun _ _ => ?_
    refine cg (cSRank (t := r) (x := z) (p := unp ps ps.length) (e := em (unp ps ps.length)) (unp_60 h) (by omega) (fun y hy => by rw [hu] at hy; simpa using hy) (fun w j => j.1)) fun _ _ => ?_
    refine fz (fzp ?_)
    exact rt (b1, q, X) hX rfl (fun _ h => h.ent fun _ j => ⟨⟨j.1, j.2.1, j.2.2.2.1, trivial⟩, j.2.2.2.2.2⟩)
end
end
end Go.Proofs.YtimemehaccgmmaaGreatDoor
namespace Go.Proofs.YtimemehaccgmmaaGreatDoor
open Go.RowKit
set_option maxRecDepth 100000
set_option linter.unusedVariables false
set_option linter.unusedSimpArgs false
noncomputable section
/-- The rows that have an id below k. -/
def pL (ids : List Nat) (k : Nat) : Nat → Bool := fun i => match ids[i]? with | some x => decide (x < k) | none => false
/-- The set ahead of the k-th. -/
def pB (ps : List (Nat → Bool)) : Nat → Nat → Bool
  | 0 => ff
  | k + 1 => match ps[k]? with | some p => p | none => ff
section
variable {ids : List Nat} {k : Nat} {ps : List (Nat → Bool)}
theorem pL0 : pL ids 0 = ff := by funext i; unfold pL ff; split <;> simp
theorem pL_60 (h : ids.length ≤ 60) : P60 (pL ids k) := fun i hi => by
  unfold pL
  rw [List.getElem?_eq_none (by omega)]
theorem pL_succ : pL ids (k + 1) = fun i => pL ids k i || pI ids k i := by
  funext i
  unfold pL pI
  cases ids[i]? with
  | none => rfl
  | some x => rw [Bool.eq_iff_iff]; simp; omega
theorem pL_ne (h : ids.length ≤ 60) (hm : k ∈ ids) : em (pL ids (k + 1)) = false := by
  obtain ⟨i, hi, e⟩ := List.getElem_of_mem hm
  have h1 : i ∈ fl (pL ids (k + 1)) 64 := mem_fl.2 ⟨by omega, by simp [pL, hi, e]⟩
  unfold em
  cases e2 : fl (pL ids (k + 1)) 64 with
  | nil => rw [e2] at h1; cases h1
  | cons a l => rfl
theorem pB0 : pB ps 0 = ff := rfl
theorem pB_succ (h : k < ps.length) : pB ps (k + 1) = ps[k] := by simp [pB, h]
theorem pB_60 (h : POk ps) : P60 (pB ps k) := by
  cases k with
  | zero => exact fun _ _ => rfl
  | succ k =>
    by_cases hk : k < ps.length
    · rw [pB_succ hk]; exact (h.p _ (List.getElem_mem hk)).1
    · intro i _
      simp [pB, List.getElem?_eq_none (Nat.le_of_not_lt hk), ff]
end
section
variable {J : List (World → Prop)} {H : List RC} {ad : Option Addr} {cap m b r : Nat} {q : Q2} {X : List SP} {ps : List (Nat → Bool)} {xs : List Int} {ids : List Nat}
set_option maxHeartbeats 4000000 in
theorem cRgOf (hl : ids.length ≤ 60) (hm : m ≤ 60) (hlt : ∀ x ∈ ids, x < m) (hall : ∀ id < m, id ∈ ids) (hT : Ent J TabT) (hJ : Ent J (Rs fj 1 ad cap ids) := by exact jA) :
    Tr TP 78 [.slice ad ids.length cap, .int .i64 m] (Ctx J H) (fun x : Nat × Q2 × List SP => .tuple #[pb x.1, .int .i64 0]) (fun x => x.2.2.map (·.2) = (List.range m).map (fun k => pL ids (k + 1))) (fun x => Ctx (Bn (IvF 130 x.1 x.2.1 x.2.2) :: J) H) := by
  refine en0 Tryz.func78 rfl rfl rfl (addJ hJ (go ?_))
  refine mk (fNs (α := Nat)) ((none, 0), []) fun b0 => ?_
  refine pre (fun w h => (h.nlI (f := fq) (sz := 1) (e := 85) m).perm (List.perm_middle (a := sl (fNs (α := Nat)) 1 256 (some ⟨b0, 0, none⟩) m (List.replicate m ((none, 0), []))))) ?_
  refine go ?_
  refine lp (X := Nat × List (Q2 × List Nat)) (fun x => x.1 ≤ ids.length ∧ x.2.length = m ∧ ∀ j (h : j < x.2.length), (x.2[j]).2 = fl (pI ids j) x.1) (fun (k, A) => [(1, .int .i64 m), (6, .slice (some ⟨b0, 0, none⟩) m m), (25, .slice ad ids.length cap), (26, .int .i64 ids.length), (27, .int .i64 k)])
    (fun (k, A) => Ctx (Rs fj 1 ad cap ids :: J) (sl (fNs (α := Nat)) 1 256 (some ⟨b0, 0, none⟩) m A :: (inn fq 1 85 A ++ H))) (fun x => ids.length - x.1) (0, List.replicate m ((none, 0), [])) ⟨by dsimp only; omega, by simp, fun j h => by simp [fl]⟩ rfl (fun _ h => h) fun ⟨k, A⟩ ⟨hk, hA', hAj⟩ => ?_
  dsimp only at hk hA' hAj
  refine go ?_
  refine ⟨fun h1 => ?_, fun h1 => ?_⟩
  · have hk1 : k < ids.length := by omega
    have hid := hlt ids[k] (List.getElem_mem hk1)
    have hiA : ids[k] < A.length := by omega
    have hbl : A[ids[k]].2.length ≤ 64 := by rw [hAj _ hiA]; exact Nat.le_trans fl_len (by omega)
    refine pre (fun w h => (Ctx.perm h ((inn_pick (f := fq) (sz := 1) (e := 85) (A := A) (i := ids[k]) (H := H) (by omega)).cons _))) ?_
    refine go ?_
    intro b2 q
    refine hA0 rfl rfl (oSe0 (k := 0) (y := (q, A[ids[k]].2 ++ [k])) rfl rfl rfl rfl hiA rfl rfl rfl rfl) rfl ?_
    refine go ?_
    refine en (k + 1, A.set ids[k] (q, A[ids[k]].2 ++ [k])) ⟨⟨by dsimp only; omega, by simpa using hA', fun j hj => ?_⟩, by dsimp only; omega⟩ rfl (fun _ h => Ctx.perm h ((inn_put hiA (q, A[ids[k]].2 ++ [k])).cons _))
    dsimp only at hj ⊢
    rw [List.length_set] at hj
    rw [List.getElem_set]
    split
    · rename_i e
      subst e
      rw [pI_t hk1 rfl, hAj _ hiA]
    · rename_i e
      rw [pI_f hk1 e, hAj _ hj]
  · obtain rfl : k = ids.length := by omega
    subst hA'
    refine pre (fun w h => (Ctx.perm h (List.perm_middle (a := sl (fNs (α := Nat)) 1 256 (some ⟨b0, 0, none⟩) A.length A)).symm).fzI) ?_
    refine fz (go ?_)
    intro b1
    refine cg cNewS fun b2 _ => ?_
    refine fzp ?_
    refine nwS fSP 1 123 none ?_
    have hAe : ∀ j (h : j < A.length), A[j].2 = fl (pI ids j) 64 := fun j h => by rw [hAj j h, pI_end hl]
    refine lp (X := Nat × Q2 × List SP × SetD) (fun x => x.1 ≤ A.length ∧ x.2.2.1.length = x.1 ∧ x.2.2.1.map (·.2) = (List.range x.1).map (fun k => pL ids (k + 1))) (fun (k, q, X, z) => [(1, .int .i64 A.length), (6, .slice (some ⟨b0, 0, none⟩) A.length A.length), (9, pb b1), (10, pb z.b), (54, .int .i64 A.length), (55, .int .i64 k)])
      (fun (k, q, X, z) => Ctx (sF z (pL ids k) (em (pL ids k)) :: AllE sP X :: Rs (fNs (α := Nat)) 1 (some ⟨b0, 0, none⟩) A.length A :: AllR fq 1 A :: Rs fj 1 ad cap ids :: J) (sl fSP 1 123 q.1 q.2 X :: pt b1 130 [.slice q.1 X.length q.2] :: H)) (fun x => A.length - x.1) (0, (none, 0), [], ⟨b2, (none, 0), (none, 0), (none, 0)⟩) (by simp) rfl (fun _ h => h.ent fun _ j => ⟨by rw [pL0]; exact ⟨j.1, rfl, trivial⟩, (fun _ h => nomatch h), j.2⟩) fun ⟨k, q, X, z⟩ ⟨hk, hXl, hX⟩ => ?_
    dsimp only at hk hX hXl
    refine go ?_
    refine ⟨fun h2 => ?_, fun h2 => ?_⟩
    · have hiX : k < A.length := by omega
      have e := hAe _ hiX
      refine go ?_
      rw [e]
      refine cg (cSetOf (pI_ne hl (hall _ hiX)) (pI_60 hl) (fun w j => hT w j.2.2.2.2.2) (fun w j => by rw [← e]; exact j.2.2.2.1.at hiX)) fun y _ => ?_
      refine cg (cSOr (x := z) (y := y) (p := pL ids k) (q := pI ids k) (e := em (pL ids k)) (pL_60 hl) (pI_60 hl) (fun w j => hT w j.2.2.2.2.2.2) (fun w j => j.2.1) (fun w j => j.1)) fun z2 _ => ?_
      rw [← pL_succ]
      intro b3
      refine ap1 (f := fSP) (z2, pL ids (k + 1)) fun q2 => ?_
      refine go ?_
      exact en (k + 1, q2, X ++ [(z2, pL ids (k + 1))], z2) ⟨⟨by dsimp only; omega, by simp [hXl], by simp [List.range_succ, hX]⟩, by dsimp only; omega⟩ rfl (fun _ h => h.ent fun _ j => ⟨j.1, j.2.2.2.1.snoc (by have h0 := j.1; rw [pL_ne hl (hall _ hiX)] at h0; exact h0), j.2.2.2.2⟩)
    · obtain rfl : k = A.length := by omega
      refine fz (fzp (go ?_))
      exact rt (b1, q, X) hX rfl (fun _ h => h.ent fun _ j => ⟨⟨j.1, j.2.1, j.2.2.2.1, trivial⟩, j.2.2.2.2.2.2.2⟩)
set_option maxHeartbeats 8000000 in
theorem cRgRead (h : POk ps) (hr : r ≤ 60) (hn : ∀ k (h : k < ps.length), ∀ i, pB ps k i = true → ps[k] i = true) (hu : pB ps ps.length = fun i => decide (i < r)) (hxs : xs = imgs ps) (hT : Ent J TabT) (hJ : Ent J (Rs f8 1 ad cap xs) := by exact jA) :
    Tr TP 99 [.slice ad xs.length cap, .int .i64 r, .int .i64 ps.length] (Ctx J H) (fun x : Nat × Q2 × List SP => .tuple #[pb x.1, .int .i64 0]) (fun x => x.2.2.map (·.2) = ps) (fun x => Ctx (Bn (IvF 130 x.1 x.2.1 x.2.2) :: J) H) := by
  have hb := h.b
  have hlx := h.len
  have h8 : B8 xs := hxs ▸ imgs_B8
  have hlx' : xs.length ≤ 24960 := by rw [hxs]; exact hlx
  refine en0 Tryz.func99 rfl rfl rfl (addJ hJ (go ?_))
  intro b1
  refine cg cNewS fun b2 _ => ?_
  refine fzp ?_
  refine nwS fSP 1 123 none ?_
  refine lp (X := Nat × Q2 × List SP × SetD) (fun x => x.1 ≤ ps.length ∧ x.2.2.1.length = x.1 ∧ x.2.2.1.map (·.2) = ps.take x.1) (fun (k, q, X, z) => [(0, .slice ad xs.length cap), (1, .int .i64 r), (8, pb b1), (9, .int .i64 ((imgs (ps.take k)).length : Nat)), (10, .bool true), (11, pb z.b), (32, .int .i64 ps.length), (33, .int .i64 k)])
    (fun (k, q, X, z) => Ctx (sF z (pB ps k) (em (pB ps k)) :: AllE sP X :: Rs f8 1 ad cap xs :: J) (sl fSP 1 123 q.1 q.2 X :: pt b1 130 [.slice q.1 X.length q.2] :: H)) (fun x => ps.length - x.1) (0, (none, 0), [], ⟨b2, (none, 0), (none, 0), (none, 0)⟩) (by simp) rfl (fun _ h => h.ent fun _ j => ⟨by rw [pB0]; exact ⟨j.1, rfl, trivial⟩, (fun _ h => nomatch h), j.2⟩) fun ⟨k, q, X, z⟩ ⟨hk, hXl, hX⟩ => ?_
  dsimp only at hk hXl hX
  have hlk := (h.take k).len
  refine go ?_
  refine ⟨fun h1 => ?_, fun h1 => ?_⟩
  · have hk1 : k < ps.length := by omega
    obtain ⟨hp, hne⟩ := h.p _ (List.getElem_mem hk1)
    have hfl : (fl ps[k] 64).length ≤ 64 := fl_len
    refine go ?_
    refine cg (cPRd (p := ps[k]) hne hp (fun w j => hT w j.2.2.2) (hxs.trans (imgs_split hk1)) rfl h8 (by omega)) fun y _ => ?_
    rw [show (imgs (ps.take k)).length + (img ps[k]).length = (imgs (ps.take (k + 1))).length by rw [imgs_succ hk1, List.length_append]]
    intro b3
    refine ap1 (f := fSP) (y, ps[k]) fun q2 => ?_
    refine go ?_
    refine cg (cSAn (x := z) (y := y) (p := pB ps k) (q := ps[k]) (e := em (pB ps k)) (pB_60 h) hp (hn k hk1) (fun w j => hT w j.2.2.2.2) (fun w j => j.2.1) (fun w j => j.1)) fun z2 _ => ?_
    refine cg (cSLen (x := z2) (p := ff) (e := true) (fun _ _ => rfl) (fun w j => j.1)) fun _ _ => ?_
    exact en (k + 1, q2, X ++ [(y, ps[k])], y) ⟨⟨by dsimp only; omega, by simp [hXl], by simp [hX]⟩, by dsimp only; omega⟩ rfl (fun _ h => h.ent fun _ j => ⟨by rw [pB_succ hk1, hne]; exact j.2.1, j.2.2.2.1.snoc j.2.1, j.2.2.2.2⟩)
  · obtain rfl : k = ps.length := by omega
    rw [List.take_length] at hX
    have hl2 : (fl (pB ps ps.length) 64).length = r := by rw [hu]; exact lt_len (by omega)
    refine go ?_
    dsimp only
    rw [List.take_length, ← hxs]
    refine ⟨fun h => absurd rfl h, fun _ => go ?_⟩
    refine cg (cSLen (x := z) (p := pB ps ps.length) (e := em (pB ps ps.length)) (pB_60 h) (fun w j => j.1)) fun _ _ => ?_
    refine cg (cSRank (t := r) (x := z) (p := pB ps ps.length) (e := em (pB ps ps.length)) (pB_60 h) (by omega) (fun y hy => by rw [hu] at hy; simpa using hy) (fun w j => j.1)) fun _ _ => ?_
    refine fz (fzp ?_)
    exact rt (b1, q, X) hX rfl (fun _ h => h.ent fun _ j => ⟨⟨j.1, j.2.1, j.2.2.2.1, trivial⟩, j.2.2.2.2.2⟩)
end
end
end Go.Proofs.YtimemehaccgmmaaGreatDoor
