/-
  Parts of the walks and their plain laws (E29 E35 W17 W18 E20 W19). No condition.
-/
import Derived.Test.YtimemehaccgmmaaGreatDoorM11
import Derived.Test.YtimemehaccgmmaaGreatDoorM13
import Derived.Test.YtimemehaccgmmaaGreatDoorM12
import Derived.Laws.RangeAny
import Derived.Lib.OthersKept
namespace Go.Proofs.YtimemehaccgmmaaGreatDoor
open Go.RowKit
set_option maxRecDepth 100000
set_option linter.unusedSimpArgs false
set_option linter.unusedVariables false
noncomputable section
section
variable {P : Program} {n : Fr} {t : Nat} {ops : Array Oper} {o : Oper} {s : List KI} {L : Env} {C : World → Prop} {Q : Exit → Act → World → Prop} {J : List (World → Prop)} {H H' : List RC} {D : List Vq} {E : List Nat}
variable {α : Type} {f : α → List Value} {sz : Nat} {ad : Option Addr} {cap : Nat} {xs : List α} {e : TypeId}
/-- On, through what is plain and sums alone. -/
theorem gpl {G R : Prop} (k : G) (h : Hold G → R := by
  intro zk
  first | refine adv_sound 400 [] rfl ?_ | refine dA rfl ?_ | skip
  repeat (first
    | refine dB rfl (by kernel_rfl) (by kernel_rfl) (dA rfl ?_)
    | (refine kq (kB 4) rfl ?_; refine qN (qWr rfl rfl (IntWalk.i64_in _ (by omega))) (fun _ _ => trivial) rfl rfl rfl (dA rfl ?_)))
  exact zk.out) : R := h ⟨k⟩
/-- An element's place, of a slice whose address is told: it stands whatever becomes of the elements. -/
theorem dIx {e0 d i m : Nat} {ty : TypeId} {x y : Operand} {kk : IntKind} (hp : ad = some ⟨ab ad, ao ad, none⟩) (hi : i < m) (k : DS P n ops t s (⟨e0, .pointer (some ⟨ab ad, ao ad + i * sz, none⟩), none⟩ :: D) E ((d, .pointer (some ⟨ab ad, ao ad + i * sz, none⟩)) :: L) C Q)
    (h : fnd t D E (kB 2) nums ops.toList = some (e0, o) := by rfl) (ho : o.op = .indexAddr ty x y := by rfl) (hx : ev L x = some (.slice ad m cap) := by rfl) (hy : ev L y = some (.int kk (i : Int)) := by rfl) (ht : esz P ty = some sz := by rfl) (hd : o.dst = some d := by rfl) (hn : Nat.blt d n.1 = true := by rfl) (hg : gOk o ops L = some true := by rfl) : DS P n ops t s D E L C Q :=
  kq (kB 2) h (qN (F := none) ⟨by rw [ho]; rfl, fun ρ w hρ _ => by
    have := run_ix (P := P) (cap := cap) (kk := kk) ht hi hp w
    simp only [execOp, ho, hρ _ _ hx, hρ _ _ hy, Sem.run_bind, this]; rfl⟩ (fun _ _ => trivial) hd hn hg k)
end
end
end Go.Proofs.YtimemehaccgmmaaGreatDoor
namespace Go.Proofs.YtimemehaccgmmaaGreatDoor
open Go.RowKit
set_option maxRecDepth 100000
set_option linter.unusedVariables false
noncomputable section
section
variable {P : Program} {n : Fr} {ops : Array Oper} {o : Oper} {L : Env} {C : World → Prop}
/-- A place in an array that lies anywhere. -/
theorem qIxA {t : TypeId} {x y : Operand} {b off off' i len z : Nat} {kk : IntKind} (ho : o.op = .indexAddr t x y) (hx : ev L x = some (.pointer (some ⟨b, off, none⟩))) (hy : ev L y = some (.int kk (i : Int))) (ht : esA P t = some (len, z)) (hlt : i < len) (he : off' = off + i * z) :
    OQ P o L none (.pointer (some ⟨b, off', none⟩)) := by
  obtain ⟨e, inf, ht2, hi, rfl⟩ := esA_eq ht
  subst he
  refine ⟨by rw [ho]; rfl, fun ρ w hρ _ => ?_⟩
  have h1 : (0 : Int) ≤ i ∧ (i : Int) < len := by omega
  simp [execOp, ho, hρ _ _ hx, hρ _ _ hy, Instr.indexAt, asIntOf, run_und ht2, Instr.sureAddr, h1, hlt, sizeOf, typeInfo, hi, add_eq]
end
section
variable {J : List (World → Prop)} {H : List RC}
/-- What is nil is a slice of one's own. -/
theorem Ctx.nl {α : Type} {f : α → List Value} {sz : Nat} {e : TypeId} {w : World} (h : Ctx J H w) : Ctx J (sl f sz e none 0 [] :: H) w :=
  ⟨fun w' k => h.st w' (k.mono fun x hx => .inl (by simpa [fp, sl, ob] using hx)), ⟨OwnS.nil f sz w 0 e, h.hs⟩, fun b hb => h.lt b (by simpa [fp, sl, ob] using hb), by simpa [fp, sl, ob] using h.nd⟩
theorem rNil {α : Type} {f : α → List Value} {sz : Nat} : Ent J (Rs f sz none 0 []) := fun _ _ => ⟨by simp, by simp, fun i hi => absurd hi (Nat.not_lt_zero _)⟩
end
end
end Go.Proofs.YtimemehaccgmmaaGreatDoor
namespace Go.Proofs.YtimemehaccgmmaaGreatDoor
open Go.RowKit
set_option maxRecDepth 100000
set_option linter.unusedVariables false
noncomputable section
section
variable {J : List (World → Prop)} {H : List RC} {x : Nat × Q2} {kd : Int} {D : List Vl}
theorem cDNone (hJ : Ent J (Bn (Dct x kd D)) := by exact jA) (hk : kd = 1 ∨ kd = 2) : Tr TP 52 [pb x.1] (Ctx J H) (fun _ : Unit => .bool false) (fun _ => True) (fun _ => Ctx J H) := by
  refine en0 Tryz.func52 rfl rfl rfl (addS2 hJ ?_)
  refine go ?_
  rw [show decide (kd = 0) = false by simp; omega]
  exact rt () trivial rfl (fun _ h => h.ent fun _ j => j.2.2.2)
theorem cDLen (hJ : Ent J (Bn (Dct x kd D)) := by exact jA) (hk : kd = 1 ∨ kd = 2) : Tr TP 15 [pb x.1] (Ctx J H) (fun _ : Unit => .int .i64 D.length) (fun _ => True) (fun _ => Ctx J H) := by
  refine en0 Tryz.func15 rfl rfl rfl (addS2 hJ ?_)
  refine go ?_
  refine cg (cDNone (hk := hk)) fun _ _ => ?_
  exact rt () trivial rfl (fun _ h => h.ent fun _ j => j.2.2.2)
theorem cDKind (hJ : Ent J (Bn (Dct x kd D)) := by exact jA) (hk : kd = 1 ∨ kd = 2) : Tr TP 96 [pb x.1] (Ctx J H) (fun _ : Unit => .int .u8 kd) (fun _ => True) (fun _ => Ctx J H) := by
  refine en0 Tryz.func96 rfl rfl rfl (addS2 hJ ?_)
  refine go ?_
  refine cg (cDNone (hk := hk)) fun _ _ => ?_
  exact rt () trivial rfl (fun _ h => h.ent fun _ j => j.2.2.2)
theorem cDValue {i : Nat} (hi : i < D.length := by omega) (hb : D.length ≤ 1000 := by omega) (hJ : Ent J (Bn (Dct x kd D)) := by exact jA) (hk : kd = 1 ∨ kd = 2) : Tr TP 183 [pb x.1, .int .i64 i] (Ctx J H) (fun _ : Unit => .tuple #[aV D[i], .int .i64 0]) (fun _ => True) (fun _ => Ctx J H) := by
  refine en0 Tryz.func183 rfl rfl rfl (addS2 hJ ?_)
  refine go ?_
  intro b
  refine cg (cDNone (hk := hk)) fun _ _ => ?_
  exact rv () trivial (fun _ h => h.rest.ent fun _ j => j.2.2.2)
set_option maxHeartbeats 2000000 in
theorem cBsV {ad : Option Addr} {cap k : Nat} (hJ : Ent J (Rs fV 3 ad cap D) := by exact jA) (hb : D.length ≤ 1000 := by omega) (hs : D.Pairwise LtV) (hk : k < D.length) :
    Tr TP 141 [.slice ad D.length cap, aV D[k], .func (.func 63) #[] #[]] (Ctx J H) (fun _ : Unit => .tuple #[.int .i64 k, .bool true]) (fun _ => True) (fun _ => Ctx J H) := by
  have hlt : ∀ h (hh : h < D.length), cmpV D[h] D[k] < 0 ↔ h < k := by
    intro h hh
    rw [cmpV_lt]
    have hp := List.pairwise_iff_getElem.1 hs
    constructor
    · intro hl
      rcases Nat.lt_trichotomy h k with h1 | h1 | h1
      · exact h1
      · subst h1; exact (hl.irrefl).elim
      · exact (hl.asymm (hp k h hk hh h1)).elim
    · intro h1; exact hp h k hh hk h1
  refine en0 Tryz.func141 rfl rfl rfl (addJ hJ (go ?_))
  intro p
  refine lp (X := Nat × Nat) (fun x => x.1 ≤ k ∧ k ≤ x.2 ∧ x.2 ≤ D.length) (fun (i, j) => [(0, .slice ad D.length cap), (2, .func (.func 63) #[] #[]), (4, pb p), (8, .int .i64 D.length), (9, .int .i64 i), (10, .int .i64 j)]) (fun _ => Ctx (Rs fV 3 ad cap D :: J) (pt p 68 [.int .u8 D[k].k, .int .i64 D[k].n, .string D[k].s] :: H)) (fun x => x.2 - x.1) (0, D.length) ⟨by simp, by dsimp only; omega, by simp⟩ rfl (fun _ h => h) fun ⟨i, j⟩ ⟨h1, h2, h3⟩ => ?_
  dsimp only at h1 h2 h3
  refine go ?_
  refine ⟨fun h => ?_, fun h => ?_⟩
  · have e : ((i : Int) + j) / 2 ^ min 1 IntKind.u64.bits = (((i + j) / 2 : Nat) : Int) := by rw [show min 1 IntKind.u64.bits = 1 from rfl]; omega
    refine go ?_
    rw [e]
    have hh : (i + j) / 2 < D.length := by omega
    rw [IntWalk.i64_in ((((i + j) / 2 : Nat)) : Int) (by omega)]
    refine go ?_
    refine cg cCompare fun _ _ => ?_
    refine br (fun h9 => ?_) fun h9 => ?_
    · have := (hlt _ hh).1 h9
      exact en ((i + j) / 2 + 1, j) ⟨⟨by dsimp only; omega, h2, h3⟩, by dsimp only; omega⟩ rfl (fun _ h => h)
    · have : ¬ (i + j) / 2 < k := fun h8 => h9 ((hlt _ hh).2 h8)
      exact en (i, (i + j) / 2) ⟨⟨h1, by dsimp only; omega, by dsimp only; omega⟩, by dsimp only; omega⟩ rfl (fun _ h => h)
  · obtain rfl : i = k := by omega
    refine go ?_
    rw [show decide ((i : Int) < (D.length : Int)) = true by simp; omega]
    refine go ?_
    refine ca cCompare fun _ _ => ?_
    rw [cmpV_eq.2 rfl]
    refine go ?_
    exact rv () trivial (fun _ h => h.rest.ent fun _ j => j.2)
theorem cDFind {k : Nat} (hJ : Ent J (Bn (Dct x kd D)) := by exact jA) (hk : kd = 1 ∨ kd = 2) (hb : D.length ≤ 1000 := by omega) (hs : D.Pairwise LtV) (hi : k < D.length) :
    Tr TP 73 [pb x.1, aV D[k]] (Ctx J H) (fun _ : Unit => .tuple #[.int .i64 k, .bool true]) (fun _ => True) (fun _ => Ctx J H) := by
  refine en0 Tryz.func73 rfl rfl rfl (addS2 hJ ?_)
  refine go ?_
  intro b
  refine cg (cDNone (hk := hk)) fun _ _ => ?_
  refine cg (cBsV (hs := hs) (hk := hi)) fun _ _ => ?_
  exact rv () trivial (fun _ h => h.rest.ent fun _ j => j.2.2.2)
/-- The bytes of values as numbers. -/
def dicB (kd : Int) (D : List Vl) : List Int := kd :: (le 4 D.length ++ D.flatMap appV)
theorem flat_le {α : Type} {g : α → List Int} {c : Nat} : ∀ {l : List α}, (∀ x ∈ l, (g x).length ≤ c) → (l.flatMap g).length ≤ l.length * c
  | [], _ => by simp
  | x :: l, h => by
    have := flat_le (l := l) fun y hy => h y (List.mem_cons_of_mem _ hy)
    have h1 := h x (List.mem_cons_self ..)
    simp only [List.flatMap_cons, List.length_append, List.length_cons, Nat.succ_mul]
    omega
theorem appV_len {v : Vl} (h : v.s.size ≤ 100) : (appV v).length ≤ 110 := by
  unfold appV
  split
  · rw [le_len]; omega
  · split
    · have := ub_len 10 v.s.size
      rw [List.length_append, sb_len]; omega
    · simp
/-- Values that a table of few short texts has. -/
structure VOk (kd : Int) (D : List Vl) : Prop where
  k : kd = 1 ∨ kd = 2
  b : D.length ≤ 1000
  v : ∀ v ∈ D, OkV v ∧ v.k = kd ∧ v.s.size ≤ 100
theorem VOk.len (h : VOk kd D) : (dicB kd D).length ≤ 5 + D.length * 110 := by
  have := flat_le (g := appV) (c := 110) (l := D) fun v hv => appV_len (h.v v hv).2.2
  simp only [dicB, List.length_cons, List.length_append, le_len]; omega
theorem OkV.app {v : Vl} (h : OkV v) : v.k = 1 ∨ v.k = 2 ∧ v.s.size < 100000 := by
  rcases h.k with ⟨h, -⟩ | ⟨h, -, h2⟩
  · exact .inl h
  · exact .inr ⟨h, by omega⟩
theorem flat_take_succ {α : Type} {g : α → List Int} {l : List α} {k : Nat} (h : k < l.length) : (l.take (k + 1)).flatMap g = (l.take k).flatMap g ++ g l[k] := by
  rw [← List.take_append_getElem h, List.flatMap_append]; simp
theorem VOk.pre (h : VOk kd D) (k : Nat) : (kd :: (le 4 D.length ++ (D.take k).flatMap appV)).length ≤ 5 + 110 * 1000 := by
  have := flat_le (g := appV) (c := 110) (l := D.take k) fun v hv => appV_len (h.v v (List.mem_of_mem_take hv)).2.2
  have h2 := h.b
  have h3 : (D.take k).length ≤ D.length := by simp; omega
  simp only [List.length_cons, List.length_append, le_len]; omega
theorem cDBytes (hJ : Ent J (Bn (Dct x kd D)) := by exact jA) (h : VOk kd D) :
    Tr TP 75 [pb x.1] (Ctx J H) (fun q : Q2 => .slice q.1 (dicB kd D).length q.2) (fun _ => True) (fun q => Ctx J (sl f8 1 5 q.1 q.2 (dicB kd D) :: H)) := by
  have hb := h.b
  refine en0 Tryz.func75 rfl rfl rfl (addS2 hJ ?_)
  refine go ?_
  refine cg (cDNone (hk := h.k)) fun _ _ => ?_
  intro b
  refine prec (fun w h => (Ctx.p2s (f := f8) (xs := [kd]) rfl (by simp) h).fzS) (cg (cA32 (xs := [kd]) (n := D.length)) fun q _ => ?_)
  refine lp (X := Nat × Q2) (fun y => y.1 ≤ D.length) (fun (k, q) => [(3, .slice q.1 (kd :: (le 4 D.length ++ (D.take k).flatMap appV)).length q.2), (23, .slice x.2.1 D.length x.2.2), (24, .int .i64 D.length), (25, .int .i64 k)])
    (fun (k, q) => Ctx ((pt x.1 128 [.int .u8 kd, .slice x.2.1 D.length x.2.2]).A :: Rs fV 3 x.2.1 x.2.2 D :: Bn (Dct x kd D) :: J) (sl f8 1 5 q.1 q.2 (kd :: (le 4 D.length ++ (D.take k).flatMap appV)) :: H)) (fun y => D.length - y.1) (0, q) (by simp) (by simp) (fun _ h => by simpa using h.ent fun _ j => j.2) fun ⟨k, q⟩ hk => ?_
  dsimp only at hk
  refine go ?_
  have hpl := h.pre k
  refine br (fun h1 => ?_) fun h1 => ?_
  · intro c
    have hk1 : k < D.length := by omega
    have hv := h.v D[k] (List.getElem_mem _)
    have hal := appV_len hv.2.2
    refine cg (cAppV (xs := []) (hJ := rNil) (hv := hv.1.app)) fun q2 _ => ?_
    refine fz (fr 1 rfl ?_)
    refine apJ (ys := appV D[k]) je0 (by omega) fun q3 => ?_
    refine go ?_
    have e1 : (kd :: (le 4 D.length ++ (D.take k).flatMap appV)) ++ appV D[k] = kd :: (le 4 D.length ++ (D.take (k + 1)).flatMap appV) := by rw [flat_take_succ hk1]; simp
    rw [e1]
    exact en (k + 1, q3) ⟨by dsimp only; omega, by dsimp only; omega⟩ rfl (fun _ h => (h.drp 1).ent fun _ j => j.2)
  · obtain rfl : k = D.length := by omega
    refine go ?_
    exact rt q trivial (by simp [dicB]; rfl) (fun _ h => by simpa [dicB] using h.ent fun _ j => j.2.2.2)
end
end
end Go.Proofs.YtimemehaccgmmaaGreatDoor
namespace Go.Proofs.YtimemehaccgmmaaGreatDoor
open Go.RowKit
set_option maxRecDepth 100000
set_option linter.unusedVariables false
noncomputable section
section
variable {J : List (World → Prop)} {H : List RC} {kd : Int} {D : List Vl}
theorem cVRead' {b : Nat} {q : Q2} {A B xs : List Int} {v : Vl} {i : Nat} (hx : xs = A ++ (appV v ++ B)) (hi : i = A.length) (hk : v.k = kd) (hJ : Ent J (Rs f8 1 q.1 q.2 xs) := by exact jA) (hv : OkV v) (h8 : B8 xs) (hb : xs.length ≤ 100000000 := by first | omega | (simp <;> omega)) :
    Tr TP 172 [pb b, .int .u8 kd] (Ctx J (rdr b q xs i :: H)) (fun _ : Unit => .tuple #[aV v, .bool true]) (fun _ => True) (fun _ => Ctx J (rdr b q xs (i + (appV v).length) :: H)) := by
  subst hx hi hk
  exact cVRead hJ hv h8 hb
theorem flat_split_V (D : List Vl) {k : Nat} (h : k < D.length) : D.flatMap appV = (D.take k).flatMap appV ++ (appV D[k] ++ (D.drop (k + 1)).flatMap appV) := by
  conv => lhs; rw [← List.take_append_drop k D, List.drop_eq_getElem_cons h]
  rw [List.flatMap_append, List.flatMap_cons]
theorem dicB_split (kd : Int) (D : List Vl) {k : Nat} (h : k < D.length) : dicB kd D = (kd :: (le 4 D.length ++ (D.take k).flatMap appV)) ++ (appV D[k] ++ (D.drop (k + 1)).flatMap appV) := by
  simp [dicB, flat_split_V D h]
theorem VOk.B8 (h : VOk kd D) : B8 (dicB kd D) := by
  intro x hx
  simp only [dicB, List.mem_cons, List.mem_append, List.mem_flatMap] at hx
  rcases hx with rfl | hx | ⟨v, hv, hx⟩
  · have := h.k; omega
  · exact le_B8 _ _ x hx
  · exact appV_B8 v x hx
theorem Ctx.o3 {w : World} {a b c d : RC} (h : Ctx J (a :: b :: c :: d :: H) w) : Ctx J (c :: d :: b :: H) w := h.rest.perm (List.perm_middle (l₁ := [c, d])).symm
set_option maxHeartbeats 2000000 in
theorem cDRead {ad : Option Addr} {cap : Nat} (hJ : Ent J (Rs f8 1 ad cap (dicB kd D)) := by exact jA) (h : VOk kd D) (hs : D.Pairwise LtV) :
    Tr TP 95 [.slice ad (dicB kd D).length cap] (Ctx J H) (fun x : Nat × Q2 => .tuple #[pb x.1, .int .i64 0]) (fun _ => True) (fun x => Ctx (Bn (Dct x kd D) :: J) H) := by
  have hb := h.b
  have hl := h.len
  have h8 := h.B8
  have hP : ∀ k, k < D.length → 5 + ((D.take (k + 1)).flatMap appV).length = 5 + ((D.take k).flatMap appV).length + (appV D[k]!).length := by
    intro k hk; rw [flat_take_succ hk, List.length_append, getElem!_pos D k hk]; omega
  have hl5 : (dicB kd D).length = 5 + (D.flatMap appV).length := by simp [dicB]; omega
  have hpl : ∀ k, ((D.take k).flatMap appV).length ≤ (D.flatMap appV).length := by
    intro k; conv => rhs; rw [← List.take_append_drop k D, List.flatMap_append, List.length_append]
    omega
  have e0 : un (sub (dicB kd D) 0 (0 + 1)) = kd := by
    rw [sub_at (l := dicB kd D) (i := 0) (j := 0 + 1) [] [kd] (le 4 D.length ++ D.flatMap appV) (by simp [dicB]) rfl (by simp)]
    simp [un]
  have e1 : un (sub (dicB kd D) (0 + 1) (0 + 1 + 4)) = D.length := by
    rw [sub_at (l := dicB kd D) (i := 0 + 1) (j := 0 + 1 + 4) [kd] (le 4 D.length) (D.flatMap appV) (by simp [dicB]) rfl (by simp), un_le _ _ (by omega)]
  refine en0 Tryz.func95 rfl rfl rfl (addJ hJ (go ?_))
  refine cg cNew fun ⟨b, r⟩ _ => ?_
  refine ca (cU8 (hi := by omega) (h8 := h8)) fun _ _ => ?_
  rw [e0]
  refine go ?_
  refine cg cBad fun _ _ => ?_
  refine cg (cIsKind h.k) fun _ _ => ?_
  refine ca (cU32 (hi := by omega) (h8 := h8)) fun _ _ => ?_
  rw [e1]
  refine go ?_
  refine cg cBad fun _ _ => ?_
  intro p
  refine pre (fun w hc => Ctx.nl (f := fV) (sz := 3) (e := 68) hc) ?_
  refine lp (X := Nat × Q2) (fun y => y.1 ≤ D.length) (fun (k, q) => [(0, .slice ad (dicB kd D).length cap), (4, pb b), (5, .int .u8 kd), (7, pb p), (35, .int .i64 D.length), (36, .int .i64 k)])
    (fun (k, q) => Ctx (Rs f8 1 r.1 r.2 (dicB kd D) :: Rs f8 1 ad cap (dicB kd D) :: J) (sl fV 3 68 q.1 q.2 (D.take k) :: pt p 128 [.int .u8 kd, .slice q.1 k q.2] :: rdr b r (dicB kd D) (5 + ((D.take k).flatMap appV).length) :: H)) (fun y => D.length - y.1) (0, none, 0) (by simp) rfl (fun _ h => h) fun ⟨k, q⟩ hk => ?_
  dsimp only at hk
  refine go ?_
  refine br (fun h1 => ?_) fun h1 => ?_
  · have hk1 : k < D.length := by omega
    have hv := h.v D[k] (List.getElem_mem _)
    refine frc 2 rfl ?_
    refine cg cAt fun _ _ => ?_
    have hq := hP k hk1
    rw [getElem!_pos D k hk1] at hq
    refine cg (cVRead' (dicB_split kd D hk1) (by simp; omega) hv.2.1 (hv := hv.1) (h8 := h8)) fun _ _ => ?_
    intro c
    have e5 : (D.take (k + 1)).length = k + 1 := by simp; omega
    rcases Nat.eq_zero_or_pos k with h0 | h0
    · rw [show decide ((k : Int) > 0) = false by simp; omega]
      refine go ?_
      intro d q2
      have e2 : D.take k ++ [D[k]] = D.take (k + 1) := List.take_append_getElem hk1
      rw [e2, e5, ← hq]
      exact en (k + 1, q2) ⟨by dsimp only; omega, by dsimp only; omega⟩ rfl (fun _ h => Ctx.o3 h)
    · rw [show decide ((k : Int) > 0) = true by simp; omega]
      refine go ?_
      rw [show ((k : Int) - 1) = ((k - 1 : Nat) : Int) by omega]
      refine go ?_
      have e3 : (D.take k)[k - 1]'(by simp; omega) = D[k - 1] := by simp
      rw [e3]
      refine ca cCompare fun _ _ => ?_
      have e4 : ¬ cmpV D[k - 1] D[k] ≥ 0 := by have := (cmpV_lt (a := D[k-1]) (b := D[k])).2 (List.pairwise_iff_getElem.1 hs (k - 1) k (by omega) hk1 (by omega)); omega
      refine go ?_
      intro d q2
      have e2 : D.take k ++ [D[k]] = D.take (k + 1) := List.take_append_getElem hk1
      rw [e2, e5, ← hq]
      exact en (k + 1, q2) ⟨by dsimp only; omega, by dsimp only; omega⟩ rfl (fun _ h => Ctx.o3 h)
  · obtain rfl : k = D.length := by omega
    refine frc 2 rfl ?_
    rw [List.take_length]
    have hl6 : 5 + (D.flatMap appV).length ≤ (dicB kd D).length := by omega
    rw [← hl5]
    refine ca cLeft fun _ _ => ?_
    rw [Int.sub_self]
    refine go ?_
    refine fr 1 rfl (fz (fr 1 rfl (fzp ?_)))
    exact rt (p, q) trivial rfl (fun _ h => h.rest.ent fun _ j => ⟨⟨j.1, j.2.1, trivial⟩, j.2.2.2.2⟩)
end
end
end Go.Proofs.YtimemehaccgmmaaGreatDoor
namespace Go.Proofs.YtimemehaccgmmaaGreatDoor
open Go.RowKit Go.Lib
set_option maxRecDepth 100000
set_option linter.unusedVariables false
noncomputable section
section
variable {P : Program} {n : Fr} {t : Nat} {ops : Array Oper} {o : Oper} {l : List Oper} {s s' : List KI} {L L' : Env} {C C' : World → Prop} {Q : Exit → Act → World → Prop} {J : List (World → Prop)} {H H' : List RC}
/-- A text's iterator. -/
def itx (b : Nat) (x : ByteArray) (p : Nat) : RC := ⟨[b], fun w => w.heap[b]? = some (.stringIter x p), fun w w' h ha => by rw [h b (by simp)]; exact ha⟩
theorem oRg {t : TypeId} {x : Operand} {z : ByteArray} (ho : o.op = .range t x) (hx : ev L x = some (.string z)) (ht : P.underlying t = some .string) :
    OS P o L (Ctx J H) (fun b : Nat => .pointer (some ⟨b, 0, none⟩)) (fun _ => True) (fun b => Ctx J (itx b z 0 :: H)) := by
  intro ρ w hρ hc
  refine Yl_val (v := .pointer (some ⟨w.heap.size, 0, none⟩)) (w := w.iter z 0) ?_ ⟨_, rfl, trivial, hc.new ((Kp.refl [] w).alloc _) (w.iter_heap z 0) (fun b hb => by simp [itx] at hb; subst hb; simp [World.iter]) (by simp [itx])⟩
  simp only [execOp, ho, hρ _ _ hx]
  rw [Sem.run_bind, run_range_string w t z ht]; rfl
theorem Ctx.itx' {w : World} {b p p' : Nat} {z : ByteArray} (hc : Ctx J (itx b z p :: H) w) : Ctx J (itx b z p' :: H) (w.iterAt b z p') := by
  have hb : w.heap[b]? = some (.stringIter z p) := hc.hs.1
  have hlt : b < w.heap.size := (Array.getElem?_eq_some_iff.1 hb).1
  refine hc.upd (r' := itx b z p') ⟨rfl, rfl, rfl, by rw [iterAt_size]; exact Nat.le_refl _, fun k hk hn => iterAt_other w b k z p' (fun e => hn (by simp [itx, e])), Nat.le_refl _⟩ (iterAt_heap w b z p p' hb) (fun c hc' => ?_) (by simp [itx])
  simp [itx] at hc'
  subst hc'
  exact ⟨.inl (by simp [itx]), by rw [iterAt_size]; exact hlt⟩
theorem oNx {x : Operand} {b p : Nat} {z : ByteArray} (ho : o.op = .next x true) (hx : ev L x = some (.pointer (some ⟨b, 0, none⟩))) (h : p < z.size) :
    OS P o L (Ctx J (itx b z p :: H)) (fun _ : Unit => .tuple #[.bool true, .int .i64 (p : Nat), .int .i32 ((Utf8.decode z p).1 : Nat)]) (fun _ => True) (fun _ => Ctx J (itx b z (p + (Utf8.decode z p).2) :: H)) := by
  intro ρ w hρ hc
  refine Yl_val (w := w.iterAt b z (p + (Utf8.decode z p).2)) ?_ ⟨(), rfl, trivial, hc.itx'⟩
  simp only [execOp, ho, hρ _ _ hx]
  rw [Sem.run_bind, run_next_any_at w b z p _ hc.hs.1 h]; rfl
theorem oNe {x : Operand} {b p : Nat} {z : ByteArray} (ho : o.op = .next x true) (hx : ev L x = some (.pointer (some ⟨b, 0, none⟩))) (h : ¬ p < z.size) :
    OS P o L (Ctx J (itx b z p :: H)) (fun _ : Unit => .tuple #[.bool false]) (fun _ => True) (fun _ => Ctx J (itx b z p :: H)) := by
  intro ρ w hρ hc
  refine Yl_val (w := w) ?_ ⟨(), rfl, trivial, hc⟩
  simp only [execOp, ho, hρ _ _ hx]
  rw [Sem.run_bind, run_next_end_at w b z p _ hc.hs.1 h]; rfl
/-- Into a text; its next letter; its end. -/
theorem rg {t : TypeId} {x : Operand} {z : ByteArray} {d : Nat} (k : ∀ b : Nat, HK P n (.ops ops l :: s) ((d, .pointer (some ⟨b, 0, none⟩)) :: L) (Ctx J (itx b z 0 :: H)) Q)
    (hg : gOk o ops L = some true := by rfl) (hd : o.dst = some d := by rfl) (hn : Nat.blt d n.1 = true := by rfl) (ho : o.op = .range t x := by rfl) (hx : ev L x = some (.string z) := by rfl) (ht : P.underlying t = some .string := by rfl) : HK P n (.ops ops (o :: l) :: s) L (Ctx J H) Q :=
  hs hg hd hn (oRg ho hx ht) fun b _ => k b
theorem nx {x : Operand} {z : ByteArray} {d b p : Nat} (h : p < z.size) (k : HK P n (.ops ops l :: s) ((d, .tuple #[.bool true, .int .i64 (p : Nat), .int .i32 ((Utf8.decode z p).1 : Nat)]) :: L) (Ctx J (itx b z (p + (Utf8.decode z p).2) :: H)) Q)
    (hg : gOk o ops L = some true := by rfl) (hd : o.dst = some d := by rfl) (hn : Nat.blt d n.1 = true := by rfl) (ho : o.op = .next x true := by rfl) (hx : ev L x = some (.pointer (some ⟨b, 0, none⟩)) := by rfl) : HK P n (.ops ops (o :: l) :: s) L (Ctx J (itx b z p :: H)) Q :=
  hs hg hd hn (oNx ho hx h) fun _ _ => k
theorem nxE {x : Operand} {z : ByteArray} {d b p : Nat} (h : ¬ p < z.size) (k : HK P n (.ops ops l :: s) ((d, .tuple #[.bool false]) :: L) (Ctx J (itx b z p :: H)) Q)
    (hg : gOk o ops L = some true := by rfl) (hd : o.dst = some d := by rfl) (hn : Nat.blt d n.1 = true := by rfl) (ho : o.op = .next x true := by rfl) (hx : ev L x = some (.pointer (some ⟨b, 0, none⟩)) := by rfl) : HK P n (.ops ops (o :: l) :: s) L (Ctx J (itx b z p :: H)) Q :=
  hs hg hd hn (oNe ho hx h) fun _ _ => k
/-- A letter of a name: small ones, figures, and one more. -/
def ltr (c : Int) (z : UInt8) : Bool := decide ((97 ≤ (z.toNat : Int) ∧ (z.toNat : Int) ≤ 122) ∨ (48 ≤ (z.toNat : Int) ∧ (z.toNat : Int) ≤ 57) ∨ (z.toNat : Int) = c)
def nameB (c : Int) (m : Nat) (z : ByteArray) : Bool := z.data.toList.all (ltr c) && decide (1 ≤ z.size ∧ z.size ≤ m)
end
section
variable {J : List (World → Prop)} {H : List RC}
theorem nxA {P : Program} {n : Fr} {ops : Array Oper} {o : Oper} {l : List Oper} {s : List KI} {L : Env} {Q : Exit → Act → World → Prop} {x : Operand} {z : ByteArray} {d b p : Nat} (h : p < z.size) (ha : z[p].toNat < 128) (k : HK P n (.ops ops l :: s) ((d, .tuple #[.bool true, .int .i64 (p : Nat), .int .i32 (z[p].toNat : Nat)]) :: L) (Ctx J (itx b z (p + 1) :: H)) Q)
    (hg : gOk o ops L = some true := by rfl) (hd : o.dst = some d := by rfl) (hn : Nat.blt d n.1 = true := by rfl) (ho : o.op = .next x true := by rfl) (hx : ev L x = some (.pointer (some ⟨b, 0, none⟩)) := by rfl) : HK P n (.ops ops (o :: l) :: s) L (Ctx J (itx b z p :: H)) Q :=
  nx h (by rw [decode_ascii z p h ha]; exact k) hg hd hn ho hx
theorem nxH {P : Program} {n : Fr} {ops : Array Oper} {o : Oper} {l : List Oper} {s : List KI} {L : Env} {Q : Exit → Act → World → Prop} {x : Operand} {z : ByteArray} {d b p : Nat} (h : p < z.size) (ha : ¬ z[p].toNat < 128) (k : ∀ r p' : Nat, 128 ≤ r → HK P n (.ops ops l :: s) ((d, .tuple #[.bool true, .int .i64 (p : Nat), .int .i32 r]) :: L) (Ctx J (itx b z p' :: H)) Q)
    (hg : gOk o ops L = some true := by rfl) (hd : o.dst = some d := by rfl) (hn : Nat.blt d n.1 = true := by rfl) (ho : o.op = .next x true := by rfl) (hx : ev L x = some (.pointer (some ⟨b, 0, none⟩)) := by rfl) : HK P n (.ops ops (o :: l) :: s) L (Ctx J (itx b z p :: H)) Q :=
  nx h (k _ _ (decode_high z p h (by omega)).1) hg hd hn ho hx
theorem name_no {c : Int} {m : Nat} {z : ByteArray} {k : Nat} (h : k < z.size) (hn : ltr c z[k] = false) : nameB c m z = false := by
  unfold nameB
  rw [show z.data.toList.all (ltr c) = false from ?_]; rfl
  rw [List.all_eq_false]
  exact ⟨z[k], Array.mem_toList_iff.2 (Array.getElem_mem (xs := z.data) (i := k) h), by simp [hn]⟩
theorem name_all {c : Int} {m : Nat} {z : ByteArray} (h : ∀ i (h : i < z.size), i < z.size → ltr c z[i] = true) : nameB c m z = decide (1 ≤ z.size ∧ z.size ≤ m) := by
  unfold nameB
  rw [show z.data.toList.all (ltr c) = true from ?_, Bool.true_and]
  rw [List.all_eq_true]
  intro x hx
  obtain ⟨i, hi, rfl⟩ := List.getElem_of_mem hx
  exact h i (by simpa using hi) (by simpa using hi)
set_option maxHeartbeats 2000000 in
theorem cIsName {z : ByteArray} (hb : z.size ≤ 9223372036854775807) : Tr TP 198 [.string z] (Ctx J H) (fun _ : Unit => .bool (nameB 95 64 z)) (fun _ => True) (fun _ => Ctx J H) := by
  refine en0 Tryz.func198 rfl rfl rfl (go ?_)
  refine rg fun b => ?_
  refine go ?_
  refine lp (X := Nat) (fun k => k ≤ z.size ∧ ∀ i (h : i < z.size), i < k → ltr 95 z[i] = true) (fun k => [(0, .string z), (6, pb b)]) (fun k => Ctx J (itx b z k :: H)) (fun k => z.size - k) 0 (by simp) rfl (fun _ h => h) fun k ⟨hk, hall⟩ => ?_
  refine go ?_
  by_cases hlt : k < z.size
  · by_cases ha : z[k].toNat < 128
    · refine nxA hlt ha ?_
      have hnx : ltr 95 z[k] = true → ∀ i (h : i < z.size), i < k + 1 → ltr 95 z[i] = true := fun h i hi hik => by
        rcases Nat.lt_or_eq_of_le (Nat.le_of_lt_succ hik) with h2 | h2
        · exact hall i hi h2
        · subst h2; exact h
      have hno := name_no (c := 95) (m := 64) hlt
      obtain ⟨c, hc⟩ : ∃ c : Nat, c = z[k].toNat := ⟨_, rfl⟩
      have hy : ((97 ≤ (c : Int) ∧ (c : Int) ≤ 122) ∨ (48 ≤ (c : Int) ∧ (c : Int) ≤ 57) ∨ (c : Int) = 95) → ltr 95 z[k] = true := fun h => by simpa [ltr, ← hc] using h
      have hn : ¬ ((97 ≤ (c : Int) ∧ (c : Int) ≤ 122) ∨ (48 ≤ (c : Int) ∧ (c : Int) ≤ 57) ∨ (c : Int) = 95) → ltr 95 z[k] = false := fun h => by simpa [ltr, ← hc] using h
      rw [← hc]
      rcases (by omega : c < 48 ∨ (48 ≤ c ∧ c ≤ 57) ∨ (58 ≤ c ∧ c ≤ 96 ∧ c ≠ 95) ∨ c = 95 ∨ (97 ≤ c ∧ c ≤ 122) ∨ 123 ≤ c) with h | h | h | h | h | h
      all_goals refine go ?_
      all_goals first
        | exact en (k + 1) ⟨⟨by omega, hnx (hy (by omega))⟩, by omega⟩ rfl (fun _ h => h)
        | (rw [hno (hn (by omega))]; exact rt () trivial rfl (fun _ h => h.rest))
    · refine nxH hlt ha fun r p' hr => ?_
      refine go ?_
      rw [name_no (k := k) hlt (by simp [ltr]; omega)]
      exact rt () trivial rfl (fun _ h => h.rest)
  · obtain rfl : k = z.size := by omega
    refine nxE hlt ?_
    rw [name_all hall]
    refine go ?_
    refine br (fun h1 => ?_) fun h1 => ?_
    · rw [show decide (1 ≤ z.size ∧ z.size ≤ 64) = decide ((z.size : Int) ≤ 64) from decide_eq_decide.2 (by omega)]
      exact rt () trivial rfl (fun _ h => h.rest)
    · rw [show decide (1 ≤ z.size ∧ z.size ≤ 64) = false from decide_eq_false (by omega)]
      exact rt () trivial rfl (fun _ h => h.rest)
set_option maxHeartbeats 2000000 in
theorem cSecName {z : ByteArray} (hb : z.size ≤ 1000000000) : Tr TP 159 [.string z] (Ctx J H) (fun _ : Unit => .bool (nameB 46 20 z)) (fun _ => True) (fun _ => Ctx J H) := by
  refine en0 Tryz.func159 rfl rfl rfl (go ?_)
  refine rg fun b => ?_
  refine go ?_
  refine lp (X := Nat) (fun k => k ≤ z.size ∧ ∀ i (h : i < z.size), i < k → ltr 46 z[i] = true) (fun k => [(0, .string z), (6, pb b)]) (fun k => Ctx J (itx b z k :: H)) (fun k => z.size - k) 0 (by simp) rfl (fun _ h => h) fun k ⟨hk, hall⟩ => ?_
  refine go ?_
  by_cases hlt : k < z.size
  · by_cases ha : z[k].toNat < 128
    · refine nxA hlt ha ?_
      have hnx : ltr 46 z[k] = true → ∀ i (h : i < z.size), i < k + 1 → ltr 46 z[i] = true := fun h i hi hik => by
        rcases Nat.lt_or_eq_of_le (Nat.le_of_lt_succ hik) with h2 | h2
        · exact hall i hi h2
        · subst h2; exact h
      have hno := name_no (c := 46) (m := 20) hlt
      obtain ⟨c, hc⟩ : ∃ c : Nat, c = z[k].toNat := ⟨_, rfl⟩
      have hy : ((97 ≤ (c : Int) ∧ (c : Int) ≤ 122) ∨ (48 ≤ (c : Int) ∧ (c : Int) ≤ 57) ∨ (c : Int) = 46) → ltr 46 z[k] = true := fun h => by simpa [ltr, ← hc] using h
      have hn : ¬ ((97 ≤ (c : Int) ∧ (c : Int) ≤ 122) ∨ (48 ≤ (c : Int) ∧ (c : Int) ≤ 57) ∨ (c : Int) = 46) → ltr 46 z[k] = false := fun h => by simpa [ltr, ← hc] using h
      rw [← hc]
      rcases (by omega : (c < 48 ∧ c ≠ 46) ∨ (48 ≤ c ∧ c ≤ 57) ∨ (58 ≤ c ∧ c ≤ 96) ∨ c = 46 ∨ (97 ≤ c ∧ c ≤ 122) ∨ 123 ≤ c) with h | h | h | h | h | h
      all_goals refine go ?_
      all_goals first
        | exact en (k + 1) ⟨⟨by omega, hnx (hy (by omega))⟩, by omega⟩ rfl (fun _ h => h)
        | (rw [hno (hn (by omega))]; exact rt () trivial rfl (fun _ h => h.rest))
    · refine nxH hlt ha fun r p' hr => ?_
      refine go ?_
      rw [name_no (k := k) hlt (by simp [ltr]; omega)]
      exact rt () trivial rfl (fun _ h => h.rest)
  · obtain rfl : k = z.size := by omega
    refine nxE hlt ?_
    rw [name_all hall]
    refine go ?_
    refine br (fun h1 => ?_) fun h1 => ?_
    · rw [show decide (1 ≤ z.size ∧ z.size ≤ 20) = decide ((z.size : Int) ≤ 20) from decide_eq_decide.2 (by omega)]
      exact rt () trivial rfl (fun _ h => h.rest)
    · rw [show decide (1 ≤ z.size ∧ z.size ≤ 20) = false from decide_eq_false (by omega)]
      exact rt () trivial rfl (fun _ h => h.rest)
end
end
end Go.Proofs.YtimemehaccgmmaaGreatDoor
namespace Go.Proofs.YtimemehaccgmmaaGreatDoor
open Go.RowKit
set_option maxRecDepth 100000
set_option linter.unusedVariables false
noncomputable section
/-- A column: its name and kind. -/
structure Col where
  s : ByteArray
  k : Int
def fC (c : Col) : List Value := [.string c.s, .int .u8 c.k]
instance : Lies fC 2 := ⟨fun _ => rfl, fun x v h => by simp [fC] at h; rcases h with rfl | rfl <;> rfl, by decide⟩
abbrev aC (c : Col) : Value := .agg #[.string c.s, .int .u8 c.k]
def findC (l : List Col) (s : ByteArray) : Int := ixF (fun c => decide (c.s.toList = s.toList)) l
def okC (l : List Col) (i : Nat) (c : Col) : Bool := nameB 95 64 c.s && (decide (1 ≤ c.k ∧ c.k ≤ 3) && decide (findC l c.s = i))
def okL (l : List Col) : Nat → Bool
  | 0 => true
  | i + 1 => okL l i && (match l[i]? with | some c => okC l i c | none => true)
def mayL (l : List Col) : Bool := okL l l.length && decide (1 ≤ l.length ∧ l.length ≤ 256)
theorem okL_succ {l : List Col} {k : Nat} (h : k < l.length) : okL l (k + 1) = (okL l k && okC l k l[k]) := by simp [okL, h]
theorem okL_no {l : List Col} {k : Nat} (h : k < l.length) (h2 : okC l k l[k] = false) : ∀ m, k < m → okL l m = false
  | 0, hm => by omega
  | m + 1, hm => by
    rcases Nat.lt_or_eq_of_le (Nat.le_of_lt_succ hm) with h3 | h3
    · simp [okL, okL_no h h2 m h3]
    · subst h3; rw [okL_succ h, h2, Bool.and_false]
theorem mayL_no {l : List Col} {k : Nat} (h : k < l.length) (h2 : okC l k l[k] = false) : mayL l = false := by
  unfold mayL; rw [okL_no h h2 _ h]; rfl
/-- A column of figures or texts. -/
def dimB (l : List Col) (p : Int) : Bool := decide (0 ≤ p) && (match l[p.toNat]? with | some c => decide (c.k = 1 ∨ c.k = 2) | none => false)
def hasB (l : List Bool) (p : Int) : Bool := decide (0 ≤ p) && (l[p.toNat]?).getD false
section
variable {J : List (World → Prop)} {H : List RC} {ad ad2 : Option Addr} {cap cap2 : Nat} {l : List Col}
theorem ixC : IxT 245 fC 2 aC := fun hJ hcl hb => ixf hJ hcl hb
theorem cFind1 {b : Nat} {c : Col} {s : ByteArray} (hJ : Ent J (pt b 9 [.string s]).A := by exact jA) : Tr TP 246 [aC c, pb b] (Ctx J H) (fun _ : Unit => .bool (decide (c.s.toList = s.toList))) (fun _ => True) (fun _ => Ctx J H) := by
  refine en0 Tryz.func246 rfl rfl rfl (addJ hJ (go ?_))
  intro p
  exact rt () trivial rfl (fun _ h => h.rest.ent fun _ j => j.2)
theorem cFindC {s : ByteArray} (hJ : Ent J (Rs fC 2 ad cap l) := by exact jA) (hb : l.length ≤ 1000 := by omega) :
    Tr TP 199 [.slice ad l.length cap, .string s] (Ctx J H) (fun _ : Unit => .int .i64 (findC l s)) (fun _ => True) (fun _ => Ctx J H) := by
  refine en0 Tryz.func199 rfl rfl rfl (addJ hJ (go ?_))
  intro p
  refine fzpc ?_
  refine cg (ixC (pr := fun c => decide (c.s.toList = s.toList)) (cb := [pb p]) (hcl := fun J' hJ' x hx => cFind1 (hJ := fun w j => je0 w (hJ' w j)))) fun _ _ => ?_
  exact rt () trivial rfl (fun _ h => h.ent fun _ j => j.2.2)
theorem cDim {p : Int} (hJ : Ent J (Rs fC 2 ad cap l) := by exact jA) (hb : l.length ≤ 1000 := by omega) :
    Tr TP 26 [.slice ad l.length cap, .int .i64 p] (Ctx J H) (fun _ : Unit => .bool (dimB l p)) (fun _ => True) (fun _ => Ctx J H) := by
  refine en0 Tryz.func26 rfl rfl rfl (addJ hJ ?_)
  by_cases h0 : 0 ≤ p
  · obtain ⟨i, rfl⟩ := Int.eq_ofNat_of_zero_le h0
    by_cases h1 : i < l.length
    · by_cases h2 : l[i].k = 1
      · refine go ?_
        rw [show dimB l i = true by simp [dimB, h1, h2]]
        exact rt () trivial rfl (fun _ h => h.ent fun _ j => j.2)
      · refine go ?_
        rw [show dimB l i = decide (l[i].k = 2) by simp [dimB, h1, h2]]
        exact rt () trivial rfl (fun _ h => h.ent fun _ j => j.2)
    · refine go ?_
      rw [show dimB l i = false by simp [dimB, h1]]
      exact rt () trivial rfl (fun _ h => h.ent fun _ j => j.2)
  · refine go ?_
    rw [show dimB l p = false by simp [dimB, h0]]
    exact rt () trivial rfl (fun _ h => h.ent fun _ j => j.2)
theorem cHasF {fl : List Bool} {p : Int} (hJ : Ent J (Rs fB 1 ad cap fl) := by exact jA) (hb : fl.length ≤ 1000 := by omega) :
    Tr TP 65 [.slice ad fl.length cap, .int .i64 p] (Ctx J H) (fun _ : Unit => .bool (hasB fl p)) (fun _ => True) (fun _ => Ctx J H) := by
  refine en0 Tryz.func65 rfl rfl rfl (addJ hJ ?_)
  by_cases h0 : 0 ≤ p
  · obtain ⟨i, rfl⟩ := Int.eq_ofNat_of_zero_le h0
    by_cases h1 : i < fl.length
    · refine go ?_
      rw [show hasB fl i = fl[i] by simp [hasB, h1]]
      exact rt () trivial rfl (fun _ h => h.ent fun _ j => j.2)
    · refine go ?_
      rw [show hasB fl i = false by simp [hasB, h1]]
      exact rt () trivial rfl (fun _ h => h.ent fun _ j => j.2)
  · refine go ?_
    rw [show hasB fl p = false by simp [hasB, h0]]
    exact rt () trivial rfl (fun _ h => h.ent fun _ j => j.2)
set_option maxHeartbeats 2000000 in
theorem cMayL (hJ : Ent J (Rs fC 2 ad cap l) := by exact jA) (hb : l.length ≤ 1000 := by omega) (hn : ∀ c ∈ l, c.s.size ≤ 9223372036854775807) :
    Tr TP 120 [.slice ad l.length cap] (Ctx J H) (fun _ : Unit => .bool (mayL l)) (fun _ => True) (fun _ => Ctx J H) := by
  refine en0 Tryz.func120 rfl rfl rfl (addJ hJ (go ?_))
  refine lp (X := Nat) (fun k => k ≤ l.length ∧ okL l k = true) (fun k => [(0, .slice ad l.length cap), (5, .slice ad l.length cap), (6, .int .i64 l.length), (7, .int .i64 k)]) (fun k => Ctx (Rs fC 2 ad cap l :: J) H) (fun k => l.length - k) 0 ⟨by simp, rfl⟩ rfl (fun _ h => h) fun k ⟨hk, hall⟩ => ?_
  refine go ?_
  refine br (fun h1 => ?_) fun h1 => ?_
  · have hk1 : k < l.length := by omega
    intro b
    refine ca (cIsName (hn _ (List.getElem_mem hk1))) fun _ _ => ?_
    have hno := fun h => mayL_no (l := l) (k := k) hk1 h
    have hok : okC l k l[k] = (nameB 95 64 l[k].s && (decide (1 ≤ l[k].k ∧ l[k].k ≤ 3) && decide (findC l l[k].s = k))) := rfl
    cases hnm : nameB 95 64 l[k].s with
    | false =>
      refine go ?_
      rw [hno (by rw [hok, hnm]; rfl)]
      exact rt () trivial rfl (fun _ h => h.rest.ent fun _ j => j.2)
    | true =>
      by_cases hk2 : 1 ≤ l[k].k ∧ l[k].k ≤ 3
      · refine go ?_
        refine cg cFindC fun _ _ => ?_
        refine br (fun h3 => ?_) fun h3 => ?_
        · rw [hno (by rw [hok]; simp [h3])]
          exact rt () trivial rfl (fun _ h => h.rest.ent fun _ j => j.2)
        · exact en (k + 1) ⟨⟨by omega, by rw [okL_succ hk1, hall, hok, hnm]; simp [hk2]; omega⟩, by omega⟩ rfl (fun _ h => h.rest)
      · have hf : mayL l = false := hno (by rw [hok]; simp [hk2])
        rw [hf]
        rcases (by omega : l[k].k < 1 ∨ 3 < l[k].k) with h3 | h3
        · refine go ?_
          exact rt () trivial rfl (fun _ h => h.rest.ent fun _ j => j.2)
        · refine go ?_
          exact rt () trivial rfl (fun _ h => h.rest.ent fun _ j => j.2)
  · obtain rfl : k = l.length := by omega
    have e : mayL l = decide (1 ≤ l.length ∧ l.length ≤ 256) := by unfold mayL; rw [hall, Bool.true_and]
    rw [e]
    refine br (fun h3 => ?_) fun h3 => ?_
    · rw [show decide (1 ≤ l.length ∧ l.length ≤ 256) = decide ((l.length : Int) ≤ 256) from decide_eq_decide.2 (by omega)]
      exact rt () trivial rfl (fun _ h => h.ent fun _ j => j.2)
    · rw [show decide (1 ≤ l.length ∧ l.length ≤ 256) = false from decide_eq_false (by omega)]
      exact rt () trivial rfl (fun _ h => h.ent fun _ j => j.2)
end
end
end Go.Proofs.YtimemehaccgmmaaGreatDoor
