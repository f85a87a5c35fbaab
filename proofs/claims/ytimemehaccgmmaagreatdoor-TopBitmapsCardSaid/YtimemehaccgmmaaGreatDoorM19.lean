/-
  Parts of the walks and their plain laws (E22 R18 R19 R20 R21 R22 R23). No condition.
-/
import Derived.Test.YtimemehaccgmmaaGreatDoorM09
import Derived.Lib.AppendZerosOnto
import Derived.Test.YtimemehaccgmmaaGreatDoorM17
import Derived.Test.YtimemehaccgmmaaGreatDoorM13
import Derived.Test.YtimemehaccgmmaaGreatDoorM18
import Derived.Test.YtimemehaccgmmaaGreatDoorM10
namespace Go.Proofs.YtimemehaccgmmaaGreatDoor
open Go.RowKit
set_option maxRecDepth 100000
set_option linter.unusedSimpArgs false
set_option linter.unusedVariables false
noncomputable section
section
variable {P : Program} {n : Fr} {ops : Array Oper} {o : Oper} {l : List Oper} {s s' : List KI} {L L' : Env} {C C' : World → Prop} {Q : Exit → Act → World → Prop} {J : List (World → Prop)} {H H' : List RC}
/-- So many zeros are laid at the end of nothing: what is there then is only asked to have room. -/
theorem oApZ {α : Type} (f : α → List Value) {sz : Nat} [Lf : Lies f sz] {t tn e : TypeId} {x y : Operand} {k : Nat} {z : Value} {by' : Nat} {kn : IntKind} (ho : o.op = .call ⟨.builtin .append, ⟨[x, y]⟩, ⟨[t, tn]⟩⟩) (hx' : ev L x = some (.slice none 0 0)) (hy : ev L y = some (.int .i64 (k : Nat))) (hi : inf P t = some (e, z, sz, by')) (hz : (cs1 z).map (·.length) = some sz) (hby : Nat.ble by' 100000 = true) (htn : P.underlying tn = some (.int kn)) (h0 : 0 < k) (hk : k ≤ 100000000) :
    OS P o L (Ctx J H) (fun q : Nat × Nat => .slice (some ⟨q.1, 0, none⟩) k q.2) (fun _ => True) (fun q => Ctx J (sl f sz e (some ⟨q.1, 0, none⟩) q.2 [] :: H)) := by
  intro ρ w hρ hc
  obtain ⟨h1, h2⟩ := inf_eq hi
  obtain ⟨i, q1, q2, q3, q4⟩ := info_parts h2
  obtain ⟨r, hr, hl⟩ := Option.map_eq_some_iff.1 hz
  have hcz := cs1_eq hr
  have hby2 := Nat.le_of_ble_eq_true hby
  have hzs : z.cells.size = sz := by rw [hcz]; simpa using hl
  have hkb : k * by' ≤ 10000000000000 := by
    have := Nat.mul_le_mul hk hby2; omega
  have hfit : Builtin.nextslicecap (0 + k) 0 * i.bytes ≤ 281474976710656 := by rw [q4]; exact growslice_fits (by omega) (by rw [Nat.zero_add]; omega)
  have hrun := Go.Lib.run_append_grow_zeros (P := P) w t tn o.type e i z .i64 kn h1 htn q1 q2 none 0 0 [] (run_firstCells_none w.drew i.size 0 0 0) k h0 (by rw [q3]; exact Lf.pos) (by omega) (by omega) (by rw [q4]; omega) hfit
  have hge := grownCap_ge w (0 + k) 0 e
  have hle := grownCap_le_maxLen w (0 + k) 0 e (by unfold maxLen; omega)
  simp only [Nat.zero_add] at hrun hge hle
  refine Yl_val (v := .slice (some ⟨w.heap.size, 0, none⟩) k (grownCap w k 0 e)) (w := w.drew.alloc (.cells (([] : List Value).toArray ++ Builtin.zeroCells z.cells k ++ Builtin.zeroCells z.cells (grownCap w k 0 e - k)) e)) ?_ ⟨(w.heap.size, grownCap w k 0 e), rfl, trivial, ?_⟩
  · obtain ⟨dst, op, ty, pos, after, guard⟩ := o
    simp only at ho hrun
    subst ho
    simp only [execOp, resolve, invoke, builtin]
    simp [hρ _ _ hx', hρ _ _ hy]
    simp at hrun
    rw [hrun]; rfl
  · have hOw : OwnS f sz (w.drew.alloc (.cells (([] : List Value).toArray ++ Builtin.zeroCells z.cells k ++ Builtin.zeroCells z.cells (grownCap w k 0 e - k)) e)) 0 e (some ⟨w.heap.size, 0, none⟩) (grownCap w k 0 e) [] := by
      refine .inr ⟨w.heap.size, _, rfl, Nat.zero_le _, heap_alloc_at (by simp), ?_, Nat.zero_le _, by unfold maxLen at hle; omega, by simp⟩
      simp only [Array.size_append, size_zeroCells, hzs]
      have e1 : k * sz + (grownCap w k 0 e - k) * sz = grownCap w k 0 e * sz := by
        rw [← Nat.add_mul]; congr 1; omega
      simpa using e1
    have h5 := ob_self hOw
    exact hc.new (((Kp.refl [] w).drew).alloc _) hOw (fun b hb => ⟨by unfold sl ob at hb; dsimp only at hb; split at hb <;> simp at hb; omega, h5.1 b hb⟩) h5.2
end
end
end Go.Proofs.YtimemehaccgmmaaGreatDoor
namespace Go.Proofs.YtimemehaccgmmaaGreatDoor
open Go.RowKit
set_option maxRecDepth 100000
set_option linter.unusedVariables false
set_option linter.unusedSimpArgs false
noncomputable section
/-- A slice as an element. -/
def fSl (x : Q2 × Nat) : List Value := [.slice x.1.1 x.2 x.1.2]
instance : Lies fSl 1 := ⟨fun _ => rfl, fun x v h => by simp [fSl] at h; subst h; rfl, by decide⟩
section
variable {J : List (World → Prop)} {H : List RC} {ad : Option Addr} {cap : Nat} {xs : List Nat}
theorem cGrow {k : Nat} (h0 : 0 < k) (hk : k ≤ 1000) : Tr TP 312 [.slice none 0 0, .int .i64 k] (Ctx J H) (fun q : Nat × Nat => .slice (some ⟨q.1, 0, none⟩) 0 q.2) (fun _ => True) (fun q => Ctx J (sl fh 1 152 (some ⟨q.1, 0, none⟩) q.2 [] :: H)) := by
  refine en0 Tryz.func312 rfl rfl rfl (go ?_)
  rw [show (k : Int) - (((0 : Nat) : Int) - ((0 : Nat) : Int)) = (k : Nat) by omega]
  refine nwS fh 1 152 none ?_
  refine hA rfl rfl rfl ((qScS (f := fh) (xs := []) (e := 152) (a := 0) (b := 0) rfl rfl rfl rfl rfl ⟨by omega, by simp⟩).os (fun _ h => h.at (k := 0) rfl)) rfl ?_
  refine go ?_
  refine hs rfl rfl rfl (oApZ fh rfl rfl rfl rfl rfl rfl rfl h0 (by omega)) fun q _ => ?_
  refine go ?_
  refine hA rfl rfl rfl ((qScS (f := fh) (xs := []) (e := 152) (a := 0) (b := 0) rfl rfl rfl rfl rfl ⟨by omega, by simp⟩).os (fun _ h => h.at (k := 0) rfl)) rfl ?_
  rw [sbA_zero]
  refine go ?_
  exact rt q trivial rfl (fun _ h => h.drp 1)
theorem cInsH (hb : xs.length ≤ 12) (hs' : xs.Pairwise (· ≤ ·)) : Tr TP 344 [.slice ad xs.length cap, .int .i64 0, .int .i64 xs.length] (Ctx J (sl fh 1 152 ad cap xs :: H)) (fun _ : Unit => .tuple #[]) (fun _ => True) (fun _ => Ctx J (sl fh 1 152 ad cap xs :: H)) := by
  refine en0 Tryz.func344 rfl rfl rfl (go ?_)
  refine lp (X := Nat) (fun i => 1 ≤ i ∧ (i ≤ xs.length ∨ i = 1)) (fun i => [(0, .slice ad xs.length cap), (1, .int .i64 0), (2, .int .i64 xs.length), (6, .int .i64 i)]) (fun _ => Ctx J (sl fh 1 152 ad cap xs :: H)) (fun i => xs.length + 1 - i) 1 (by simp) rfl (fun _ h => h) fun i ⟨hi, hi2⟩ => ?_
  refine go ?_
  refine ⟨fun h => ?_, fun h => ?_⟩
  · have hlt : ¬ xs[i]'(by omega) < xs[i - 1]'(by omega) := by
      have := List.pairwise_iff_getElem.1 hs' (i - 1) i (by omega) (by omega) (by omega)
      omega
    refine go ?_
    refine lp (X := Unit) (fun _ => True) (fun _ => [(0, .slice ad xs.length cap), (1, .int .i64 0), (2, .int .i64 xs.length), (6, .int .i64 i), (7, .int .i64 i)]) (fun _ => Ctx J (sl fh 1 152 ad cap xs :: H)) (fun _ => 0) () trivial rfl (fun _ h => h) fun _ _ => ?_
    refine go ?_
    rw [show decide (0 < (i : Int)) = true from decide_eq_true (by omega)]
    refine go ?_
    rw [show (i : Int) - 1 = ((i - 1 : Nat) : Int) by omega]
    refine go ?_
    refine cg cLess fun _ _ => ?_
    exact en (i + 1) (by omega) (by simp [bind1])
  · refine go ?_
    exact rtE () trivial rfl (fun _ h => h)
theorem cPdqH (hb : xs.length ≤ 12) (hs' : xs.Pairwise (· ≤ ·)) {lim : Int} : Tr TP 313 [.slice ad xs.length cap, .int .i64 0, .int .i64 xs.length, .int .i64 lim] (Ctx J (sl fh 1 152 ad cap xs :: H)) (fun _ : Unit => .tuple #[]) (fun _ => True) (fun _ => Ctx J (sl fh 1 152 ad cap xs :: H)) := by
  refine en0 Tryz.func313 rfl rfl rfl (go ?_)
  refine lp (X := Unit) (fun _ => True) (fun _ => [(0, .slice ad xs.length cap), (1, .int .i64 0), (2, .int .i64 xs.length), (3, .int .i64 lim)]) (fun _ => Ctx J (sl fh 1 152 ad cap xs :: H)) (fun _ => 0) () trivial rfl (fun _ h => h) fun _ _ => ?_
  refine go ?_
  refine cg (cInsH hb hs') fun _ _ => ?_
  exact rt () trivial rfl (fun _ h => h)
theorem cLen {x : Nat} (h : x < 256) : Tr TP 209 [.int .u64 x] (Ctx J H) (fun _ : Unit => .int .i64 (bl x)) (fun _ => True) (fun _ => Ctx J H) := by
  refine en0 Tryz.func209 rfl rfl rfl (go ?_)
  refine cg (cLen64 h) fun _ _ => ?_
  exact rt () trivial rfl (fun _ h => h)
theorem cSortH (hb : xs.length ≤ 12) (hs' : xs.Pairwise (· ≤ ·)) : Tr TP 265 [.slice ad xs.length cap] (Ctx J (sl fh 1 152 ad cap xs :: H)) (fun _ : Unit => .tuple #[]) (fun _ => True) (fun _ => Ctx J (sl fh 1 152 ad cap xs :: H)) := by
  refine en0 Tryz.func265 rfl rfl rfl (go ?_)
  refine cg (cLen (by omega)) fun _ _ => ?_
  refine cg (cPdqH hb hs') fun _ _ => ?_
  exact rtE () trivial rfl (fun _ h => h)
theorem cConcat {la lb : List Nat} {qa qb : Q2} (h0 : 0 < la.length + lb.length) (hb : la.length + lb.length ≤ 1000) (hJ : Ent J (Rs fSl 1 ad cap [(qa, la.length), (qb, lb.length)])) (hJa : Ent J (Rs fh 1 qa.1 qa.2 la)) (hJb : Ent J (Rs fh 1 qb.1 qb.2 lb)) :
    Tr TP 264 [.slice ad 2 cap] (Ctx J H) (fun q : Q2 => .slice q.1 (la ++ lb).length q.2) (fun _ => True) (fun q => Ctx J (sl fh 1 152 q.1 q.2 (la ++ lb) :: H)) := by
  refine en0 Tryz.func264 rfl rfl rfl (addJ hJb (addJ (fun w j => hJa w j.2) (addJ (fun w j => hJ w j.2.2) (go ?_))))
  refine lp (X := Nat) (fun k => k ≤ 2) (fun k => [(0, .slice ad 2 cap), (3, .int .i64 (if k = 0 then 0 else if k = 1 then la.length else la.length + lb.length : Nat)), (9, .slice ad 2 cap), (10, .int .i64 2), (11, .int .i64 k)]) (fun _ => Ctx (Rs fSl 1 ad cap [(qa, la.length), (qb, lb.length)] :: Rs fh 1 qa.1 qa.2 la :: Rs fh 1 qb.1 qb.2 lb :: J) H) (fun k => 2 - k) 0 (by omega) rfl (fun _ h => h) fun k hk => ?_
  obtain rfl | rfl | rfl : k = 0 ∨ k = 1 ∨ k = 2 := by omega
  · have e0 : (([(qa, la.length), (qb, lb.length)] : List (Q2 × Nat))[0]).2 = la.length := rfl
    rw [if_pos rfl]
    refine go ?_
    exact en 1 (by omega) (by simp)
  · have e0 : (([(qa, la.length), (qb, lb.length)] : List (Q2 × Nat))[1]).2 = lb.length := rfl
    rw [if_neg (by omega), if_pos rfl]
    refine go ?_
    exact en 2 (by omega) (by simp)
  · rw [if_neg (by omega), if_neg (by omega)]
    refine go ?_
    refine cg (cGrow h0 hb) fun q _ => ?_
    refine lp (X := Nat × Q2) (fun x => x.1 ≤ 2) (fun (k, r) => [(6, .slice r.1 (match k with | 0 => [] | 1 => la | _ => la ++ lb : List Nat).length r.2), (25, .slice ad 2 cap), (26, .int .i64 2), (27, .int .i64 k)]) (fun (k, r) => Ctx (Rs fSl 1 ad cap [(qa, la.length), (qb, lb.length)] :: Rs fh 1 qa.1 qa.2 la :: Rs fh 1 qb.1 qb.2 lb :: J) (sl fh 1 152 r.1 r.2 (match k with | 0 => [] | 1 => la | _ => la ++ lb : List Nat) :: H)) (fun x => 2 - x.1) (0, some ⟨q.1, 0, none⟩, q.2) (by dsimp only; omega) rfl (fun _ h => h) fun ⟨k, r⟩ hk => ?_
    dsimp only at hk
    obtain rfl | rfl | rfl : k = 0 ∨ k = 1 ∨ k = 2 := by omega
    · dsimp only
      refine go ?_
      refine apJ (xs := []) (ys := la) je1 (by simp; omega) fun r2 => ?_
      refine go ?_
      exact en (1, r2) (by dsimp only; omega) (by simp) (fun _ h => h)
    · dsimp only
      refine go ?_
      refine apJ (xs := la) (ys := lb) je2 (by omega) fun r2 => ?_
      refine go ?_
      exact en (2, r2) (by dsimp only; omega) (by simp) (fun _ h => h)
    · dsimp only
      refine go ?_
      exact rt r trivial rfl (fun _ h => h.ent fun _ j => j.2.2.2)
end
end
end Go.Proofs.YtimemehaccgmmaaGreatDoor
namespace Go.Proofs.YtimemehaccgmmaaGreatDoor
open Go.RowKit
set_option maxRecDepth 100000
set_option linter.unusedVariables false
set_option linter.unusedSimpArgs false
noncomputable section
section
variable {J : List (World → Prop)} {H : List RC} {ad : Option Addr} {cap : Nat} {xs : List Nat}
theorem cCpH1 (hb : xs.length < 2) : Tr TP 266 [.slice ad xs.length cap] (Ctx J (sl fh 1 152 ad cap xs :: H)) (fun _ : Unit => .slice ad xs.length cap) (fun _ => True) (fun _ => Ctx J (sl fh 1 152 ad cap xs :: H)) := by
  refine en0 Tryz.func266 rfl rfl rfl (go ?_)
  exact rt () trivial rfl (fun _ h => h)
theorem cCpH2 {a : Nat} : Tr TP 266 [.slice ad 2 cap] (Ctx J (sl fh 1 152 ad cap [a, a] :: H)) (fun _ : Unit => .slice ad 1 cap) (fun _ => True) (fun _ => Ctx J (sl fh 1 152 ad cap [a] :: H)) := by
  have e0 : ([a, a] : List Nat).length = 2 := rfl
  refine en0 Tryz.func266 rfl rfl rfl (go ?_)
  refine lp (X := Unit) (fun _ => True) (fun _ => [(0, .slice ad 2 cap), (3, .int .i64 (1 : Nat))]) (fun _ => Ctx J (sl fh 1 152 ad cap [a, a] :: H)) (fun _ => 0) () trivial rfl (fun _ h => h) fun _ _ => ?_
  refine go ?_
  rw [show ((1 : Nat) : Int) - 1 = ((0 : Nat) : Int) from rfl]
  refine ⟨fun _ => ?_, fun h => absurd rfl h⟩
  refine go ?_
  refine hA rfl rfl rfl ((qScS (f := fh) (xs := [a, a]) (e := 152) (a := 1) (b := 2) rfl rfl rfl rfl rfl ⟨by omega, by simp⟩).os (fun _ h => h.at (k := 0) rfl)) rfl ?_
  refine go ?_
  refine lp (X := Unit) (fun _ => True) (fun _ => [(0, .slice ad 2 cap), (3, .int .i64 (1 : Nat)), (4, .slice (sbA ad cap 1 1) (2 - 1) (cap - 1)), (5, .int .i64 (1 : Nat))]) (fun _ => Ctx J (sl fh 1 152 ad cap [a, a] :: H)) (fun _ => 0) () trivial rfl (fun _ h => h) fun _ _ => ?_
  refine go ?_
  refine hA rfl rfl rfl ((qScS (f := fh) (xs := [a, a]) (e := 152) (a := 1) (b := 2) rfl rfl rfl rfl rfl ⟨by omega, by simp⟩).os (fun _ h => h.at (k := 0) rfl)) rfl ?_
  refine hs0 rfl rfl (oClS (k := 0) (f := fh) (xs := [a, a]) (e := 152) (a := 1) rfl rfl rfl rfl rfl rfl (by simp) rfl) fun _ _ => ?_
  refine go ?_
  refine hA rfl rfl rfl ((qScS (f := fh) (xs := [a]) (e := 152) (a := 0) (b := 1) rfl rfl rfl rfl rfl ⟨by omega, by simp⟩).os (fun _ h => h.at (k := 0) rfl)) rfl ?_
  rw [sbA_zero]
  refine go ?_
  exact rt () trivial rfl (fun _ h => h)
end
end
end Go.Proofs.YtimemehaccgmmaaGreatDoor
namespace Go.Proofs.YtimemehaccgmmaaGreatDoor
open Go.RowKit
set_option maxRecDepth 100000
set_option linter.unusedVariables false
set_option linter.unusedSimpArgs false
noncomputable section
/-- A container as an element. -/
def fCt (k : Nat) (p : Nat → Bool) (c : Q2) : List Value := cC k c p
instance (k : Nat) (p : Nat → Bool) : Lies (fCt k p) 4 := ⟨fun _ => rfl, fun x v h => by simp [fCt, cC] at h; rcases h with rfl | rfl | rfl | rfl <;> rfl, by decide⟩
/-- Where a set lies. -/
structure SetD where
  b : Nat
  kq : Q2
  lq : Q2
  c : Q2
/-- An empty set; one that is not empty. -/
def sB (x : SetD) (p : Nat → Bool) : Bool → List (World → Prop)
  | true => [(pt x.b 306 [.slice none 0 0, .slice none 0 0]).A, fun _ => p = ff]
  | false => [(pt x.b 306 [.slice x.kq.1 1 x.kq.2, .slice x.lq.1 1 x.lq.2]).A, Rs fh 1 x.kq.1 x.kq.2 [0], Rs (fCt (cn p) p) 4 x.lq.1 x.lq.2 [x.c], cF (cn p) x.c p]
def sF (x : SetD) (p : Nat → Bool) (e : Bool) : World → Prop := Bn (sB x p e)
section
variable {J : List (World → Prop)} {H : List RC} {p q g : Nat → Bool} {x y : SetD} {e : Bool}
theorem sF0 (h : Ent J (sF x p true)) : Ent J (Bn [(pt x.b 306 [.slice none 0 0, .slice none 0 0]).A, fun _ => p = ff]) := h
theorem sF1 (h : Ent J (sF x p false)) : Ent J (Bn [(pt x.b 306 [.slice x.kq.1 1 x.kq.2, .slice x.lq.1 1 x.lq.2]).A, Rs fh 1 x.kq.1 x.kq.2 [0], Rs (fCt (cn p) p) 4 x.lq.1 x.lq.2 [x.c], cF (cn p) x.c p]) := h
def kE : Bool → List Nat
  | true => []
  | false => [0]
theorem cNewS : Tr TP 147 [] (Ctx J H) (fun b : Nat => pb b) (fun _ => True) (fun b => Ctx J (pt b 306 [.slice none 0 0, .slice none 0 0] :: H)) := by
  refine en0 Tryz.func147 rfl rfl rfl (go ?_)
  intro b
  exact rt b trivial rfl (fun _ h => h)
theorem cKeys (hJ : Ent J (sF x p e)) : Tr TP 115 [pb x.b] (Ctx J H) (fun r : Q2 => .slice r.1 (kE e).length r.2) (fun _ => True) (fun r => Ctx J (sl fh 1 152 r.1 r.2 (kE e) :: H)) := by
  cases e with
  | true =>
    refine en0 Tryz.func115 rfl rfl rfl (addS2 (sF0 hJ) ?_)
    refine go ?_
    refine cg (cloneH (xs := []) (hJ := rNl)) fun r _ => ?_
    exact rt r trivial rfl (fun _ h => h.ent fun _ j => j.2.2.2)
  | false =>
    refine en0 Tryz.func115 rfl rfl rfl (addS4 (sF1 hJ) ?_)
    refine go ?_
    refine cg (cloneH (xs := [0]) (hJ := je1)) fun r _ => ?_
    exact rt r trivial rfl (fun _ h => h.ent fun _ j => j.2.2.2.2.2)
theorem kE_fl (e : Bool) : kE e = fl (fun i => decide (i = 0) && !e) 64 := by
  cases e with
  | true => rw [show (fun i : Nat => decide (i = 0) && !true) = fun _ => false from funext fun i => by simp, fl0]; rfl
  | false =>
    have := fl_of (l := [0]) (n := 64) (by simp) (by simp)
    rw [show (fun i : Nat => decide (i = 0) && !false) = fun x => [0].contains x from funext fun i => by simp [eq_comm], this]; rfl
theorem cFind (hJ : Ent J (sF x p e)) : Tr TP 314 [pb x.b, .int .u16 (0 : Nat)] (Ctx J H) (fun _ : Unit => .tuple #[.int .i64 (0 : Nat), .bool (!e)]) (fun _ => True) (fun _ => Ctx J H) := by
  cases e with
  | true =>
    have hb := fun {J H} {ad : Option Addr} {cap : Nat} hJ => cBS (J := J) (H := H) (ad := ad) (cap := cap) (g := fun i => decide (i = 0) && !true) (t := 0) (by omega) hJ
    rw [← kE_fl] at hb
    refine en0 Tryz.func314 rfl rfl rfl (addS2 (sF0 hJ) ?_)
    refine go ?_
    refine cg (hb (ad := none) (cap := 0) rNl) fun _ _ => ?_
    exact rt () trivial rfl (fun _ h => h.ent fun _ j => j.2.2.2)
  | false =>
    have hb := fun {J H} {ad : Option Addr} {cap : Nat} hJ => cBS (J := J) (H := H) (ad := ad) (cap := cap) (g := fun i => decide (i = 0) && !false) (t := 0) (by omega) hJ
    rw [← kE_fl] at hb
    refine en0 Tryz.func314 rfl rfl rfl (addS4 (sF1 hJ) ?_)
    refine go ?_
    refine cg (hb je1) fun _ _ => ?_
    exact rt () trivial rfl (fun _ h => h.ent fun _ j => j.2.2.2.2.2)
/-- The kind of what is told of a set's container. -/
def gk (p : Nat → Bool) : Bool → Nat
  | true => 0
  | false => cn p
theorem sF_cF (hJ : Ent J (sF x p e)) : Ent J (cF (gk p e) x.c p) := by
  cases e with
  | true => exact fun w j => (hJ w j).out.2.1
  | false => exact fun w j => (hJ w j).out.2.2.2.1
theorem gk_k (p : Nat → Bool) (e : Bool) : gk p e = 0 ∨ gk p e = 1 ∨ gk p e = 3 := by
  cases e with
  | true => exact .inl rfl
  | false => exact .inr (cn_le p).2
theorem cGet (hJ : Ent J (sF x p e)) : Tr TP 267 [pb x.b, .int .u16 (0 : Nat)] (Ctx J H) (fun _ : Unit => .agg ⟨cC (gk p e) x.c p⟩) (fun _ => True) (fun _ => Ctx J H) := by
  cases e with
  | true =>
    refine en0 Tryz.func267 rfl rfl rfl (addS2 (sF0 hJ) ?_)
    refine go ?_
    intro c
    refine cg (cFind (e := true) (fun w j => hJ w j.2.2.2)) fun _ _ => ?_
    exact rv () trivial (fun _ h => (h.drp 0).ent fun _ j => j.2.2.2)
  | false =>
    refine en0 Tryz.func267 rfl rfl rfl (addS4 (sF1 hJ) ?_)
    refine go ?_
    intro c
    refine cg (cFind (e := false) (fun w j => hJ w j.2.2.2.2.2)) fun _ _ => ?_
    exact rv () trivial (fun _ h => (h.drp 0).ent fun _ j => j.2.2.2.2.2)
end
end
end Go.Proofs.YtimemehaccgmmaaGreatDoor
namespace Go.Proofs.YtimemehaccgmmaaGreatDoor
open Go.RowKit
set_option maxRecDepth 100000
set_option linter.unusedVariables false
set_option linter.unusedSimpArgs false
noncomputable section
section
variable {J : List (World → Prop)} {H : List RC} {p q g : Nat → Bool} {x y : SetD} {e : Bool}
theorem kE_len (e : Bool) : (kE e).length = 1 ∨ (kE e).length = 0 := by cases e <;> simp [kE]
theorem cCpK {ad : Option Addr} {cap : Nat} (e : Bool) : Tr TP 266 [.slice ad (kE e ++ kE false).length cap] (Ctx J (sl fh 1 152 ad cap (kE e ++ kE false) :: H)) (fun _ : Unit => .slice ad 1 cap) (fun _ => True) (fun _ => Ctx J (sl fh 1 152 ad cap [0] :: H)) := by
  cases e
  · exact cCpH2
  · exact cCpH1 (xs := [0]) (by simp)
/-- A set's emptiness. -/
def em (g : Nat → Bool) : Bool := (fl g 64).isEmpty
set_option maxHeartbeats 2000000 in
theorem cEach {G : FuncId} (hp : P60 p) (hq : P60 q) (hg : P60 g) (hT : Ent J TabT) (hJ : Ent J (sF x p e)) (hJ2 : Ent J (sF y q false))
    (hG : ∀ {J' H'}, Ent J' (fun w => allJ J w) → Tr TP G [.agg ⟨cC (gk p e) x.c p⟩, .agg ⟨cC (cn q) y.c q⟩] (Ctx J' H') (fun r : Q2 => .agg ⟨cC (cn g) r g⟩) (fun _ => True) (fun r => Ctx (cF (cn g) r g :: J') H')) (hgf : em g = true → g = ff) :
    Tr TP 216 [pb x.b, pb y.b, .func (.func G) #[] #[]] (Ctx J H) (fun z : SetD => pb z.b) (fun _ => True) (fun z => Ctx (sF z g (em g) :: J) H) := by
  have hk1 := kE_len e
  refine en0 Tryz.func216 rfl rfl rfl (go ?_)
  refine cg cNewS fun b _ => ?_
  refine ca (cKeys hJ) fun k1 _ => ?_
  refine fz (go ?_)
  refine ca (cKeys (fun w j => hJ2 w j.2)) fun k2 _ => ?_
  refine fz (go ?_)
  intro c
  refine prec (fun w h => (Ctx.p2s (f := fSl) (xs := [(k1, (kE e).length), (k2, (kE false).length)]) rfl (by simp) h).fzS) ?_
  refine ca (cConcat (qa := k1) (qb := k2) (la := kE e) (lb := kE false) (by simp [kE]) (by show (kE e).length + 1 ≤ 1000; omega) je0 je2 je1) fun k3 _ => ?_
  refine go ?_
  refine ca (cSortH (by cases e <;> simp [kE]) (by cases e <;> simp [kE])) fun _ _ => ?_
  refine go ?_
  refine ca (cCpK e) fun _ _ => ?_
  refine fz ?_
  refine pre (fun w h => h.ent (J' := sF y q false :: (fun w => sF x p e w) :: (fun w => allJ J w) :: Rs fh 1 k3.1 k3.2 [0] :: J) fun w j => ⟨hJ2 w j.2.2.2.2, hJ w j.2.2.2.2, j.2.2.2.2, j.1, j.2.2.2.2⟩) ?_
  refine go ?_
  refine lp (X := Nat × SetD) (fun x => x.1 = 0 ∨ x.1 = 1 ∧ x.2.b = b) (fun (d, z) => [(0, pb x.b), (1, pb y.b), (2, .func (.func G) #[] #[]), (7, pb b), (22, .slice k3.1 1 k3.2), (23, .int .i64 (1 : Nat)), (24, .int .i64 d)])
    (fun (d, z) => match d with
      | 0 => Ctx (sF y q false :: (fun w => sF x p e w) :: (fun w => allJ J w) :: Rs fh 1 k3.1 k3.2 [0] :: J) (pt b 306 [.slice none 0 0, .slice none 0 0] :: H)
      | _ => Ctx (sF z g (em g) :: Rs fh 1 k3.1 k3.2 [0] :: J) H) (fun x => 1 - x.1) (0, x) (.inl rfl) rfl (fun _ h => h) fun ⟨d, z⟩ hz => ?_
  dsimp only at hz
  rcases hz with rfl | ⟨rfl, rfl⟩
  rotate_left
  · refine go ?_
    exact rt z trivial rfl (fun _ h => h.ent fun _ j => ⟨j.1, j.2.2⟩)
  · refine go ?_
    refine ca (cGet (fun w j => j.2.1)) fun _ _ => ?_
    refine go ?_
    refine ca (cGet je0) fun _ _ => ?_
    refine go ?_
    refine ca (hG fun w j => j.2.2.1) fun r _ => ?_
    refine go ?_
    intro c
    refine ca (cCLen (cn_le g).1 hg je0) fun _ _ => ?_
    cases hem : em g with
    | true =>
      have h0 : (fl g 64).length = 0 := by rw [List.isEmpty_iff.1 hem]; rfl
      refine go ?_
      refine en (1, ⟨b, k3, k3, k3⟩) ⟨.inr ⟨rfl, rfl⟩, by dsimp only; omega⟩ rfl (fun w h => ?_)
      exact (h.drp 0).fz.ent fun w j => ⟨⟨j.1, hgf hem, trivial⟩, j.2.2.2.2.2⟩
    | false =>
      have h0 : 0 < (fl g 64).length := by
        unfold em at hem
        cases h : fl g 64 with
        | nil => rw [h] at hem; cases hem
        | cons a l => simp
      refine nwS (fCt (cn g) g) 4 232 none (nwS fh 1 152 none ?_)
      refine go ?_
      refine par2 (f := fh) (g := fCt (cn g) g) 7 8 14 15 0 r (fun q1 q2 x1 x2 => ?_) (mkCn rfl rfl rfl rfl rfl rfl rfl rfl rfl rfl rfl rfl rfl rfl rfl (fun _ => rfl) rfl rfl rfl rfl rfl rfl (by simp)) (mkCn rfl rfl rfl rfl rfl rfl rfl rfl rfl rfl rfl rfl rfl rfl rfl (fun _ => rfl) rfl rfl rfl rfl rfl rfl (by simp))
      refine go ?_
      refine en (1, ⟨b, q1, q2, r⟩) ⟨.inr ⟨rfl, rfl⟩, by dsimp only; omega⟩ rfl (fun w h => ?_)
      exact (h.fzS.fzS.drp 0).fz.ent fun w j => ⟨⟨j.1, j.2.2.1, j.2.1, j.2.2.2.1, trivial⟩, j.2.2.2.2.2.2.2⟩
theorem em_ff (hp : P60 p) (h : em p = true) : p = ff := funext fun i => by
  unfold em at h
  cases hi : p i with
  | false => rfl
  | true =>
    have : i ∈ fl p 64 := mem_fl.2 ⟨Nat.lt_of_not_le (fun hh => by rw [hp i (by omega)] at hi; cases hi), hi⟩
    rw [List.isEmpty_iff.1 h] at this; cases this
theorem cSOr (hp : P60 p) (hq : P60 q) (hT : Ent J TabT) (hJ : Ent J (sF x p e)) (hJ2 : Ent J (sF y q false)) :
    Tr TP 148 [pb x.b, pb y.b] (Ctx J H) (fun z : SetD => pb z.b) (fun _ => True) (fun z => Ctx (sF z (fun i => p i || q i) (em (fun i => p i || q i)) :: J) H) := by
  have hg : P60 (fun i => p i || q i) := fun i hi => by simp only [hp i hi, hq i hi, Bool.or_self]
  refine en0 Tryz.func148 rfl rfl rfl (go ?_)
  refine cg (cEach hp hq hg hT hJ hJ2 (fun hJ' => cOrC (gk_k p e) (.inr (cn_le q).2) hp hq (fun w j => hT w (hJ' w j)) (fun w j => sF_cF hJ w (hJ' w j)) (fun w j => sF_cF hJ2 w (hJ' w j))) (em_ff hg)) fun z _ => ?_
  exact rt z trivial rfl (fun _ h => h)
theorem cSAn (hp : P60 p) (hq : P60 q) (hsub : ∀ i, p i = true → q i = true) (hT : Ent J TabT) (hJ : Ent J (sF x p e)) (hJ2 : Ent J (sF y q false)) :
    Tr TP 179 [pb x.b, pb y.b] (Ctx J H) (fun z : SetD => pb z.b) (fun _ => True) (fun z => Ctx (sF z ff true :: J) H) := by
  refine en0 Tryz.func179 rfl rfl rfl (go ?_)
  refine cg (cEach (g := ff) hp hq (fun _ _ => rfl) hT hJ hJ2 (fun hJ' => cAnC (gk_k p e) (cn_le q).2 hp hq hsub (fun w j => hT w (hJ' w j)) (fun w j => sF_cF hJ w (hJ' w j)) (fun w j => sF_cF hJ2 w (hJ' w j))) (fun _ => rfl)) fun z _ => ?_
  rw [show em ff = true by unfold em; rw [fl0]; rfl]
  exact rt z trivial rfl (fun _ h => h)
end
end
end Go.Proofs.YtimemehaccgmmaaGreatDoor
namespace Go.Proofs.YtimemehaccgmmaaGreatDoor
open Go.RowKit
set_option maxRecDepth 100000
set_option linter.unusedVariables false
set_option linter.unusedSimpArgs false
noncomputable section
section
variable {J : List (World → Prop)} {H : List RC} {p q g : Nat → Bool} {x y : SetD} {e : Bool} {k : Nat} {s : Q2} {ad : Option Addr} {cap : Nat}
theorem cOfA (hJ : Ent J (Rs fh 1 ad cap (fl p 64)) := by exact jA) : Tr TP 262 [.slice ad (fl p 64).length cap] (Ctx J H) (fun r : Q2 => .tuple #[.agg ⟨cC 1 r p⟩, .bool true]) (fun _ => True) (fun r => Ctx (cF 1 r p :: J) H) := by
  have hl := fl_len (g := p) (n := 64)
  refine en0 Tryz.func262 rfl rfl rfl (go ?_)
  intro b
  refine cg (cAMay hJ) fun _ _ => ?_
  refine ca (cloneH (hJ := hJ)) fun r _ => ?_
  refine fz (go ?_)
  exact rv r trivial (fun _ h => h.drp 0)
theorem cOfR (hp : P60 p) (hJ : Ent J (Rs fR 2 ad cap (rn p)) := by exact jA) : Tr TP 323 [.slice ad (rn p).length cap] (Ctx J H) (fun r : Q2 => .tuple #[.agg ⟨cC 3 r p⟩, .bool true]) (fun _ => True) (fun r => Ctx (cF 3 r p :: J) H) := by
  have hl := rn_len hp
  refine en0 Tryz.func323 rfl rfl rfl (go ?_)
  intro b
  refine cg (cRMay hp hJ) fun _ _ => ?_
  refine ca (cloneR (hJ := hJ)) fun r _ => ?_
  refine fz (go ?_)
  exact rv r trivial (fun _ h => h.drp 0)
theorem cCSize (hk : k = 1 ∨ k = 3) (hp : P60 p) : Tr TP 118 [.agg ⟨cC k s p⟩] (Ctx J H) (fun _ : Unit => .int .i64 (if k = 1 then 2 * ((fl p 64).length : Int) else 2 + 4 * ((rn p).length : Int))) (fun _ => True) (fun _ => Ctx J H) := by
  have hl := fl_len (g := p) (n := 64)
  have hl2 := rn_len hp
  obtain rfl | rfl := hk
  · rw [if_pos rfl]
    have e0 : at1 0 (fl p 64).length 1 = (fl p 64).length := rfl
    refine en0 Tryz.func118 rfl rfl rfl (go ?_)
    intro b
    exact rt () trivial rfl (fun _ h => h.rest)
  · rw [if_neg (by omega)]
    have e0 : at3 0 (rn p).length 3 = (rn p).length := rfl
    refine en0 Tryz.func118 rfl rfl rfl (go ?_)
    intro b
    exact rt () trivial rfl (fun _ h => h.rest)
theorem cCRank {t : Nat} (hk : k = 1 ∨ k = 3) (hp : P60 p) (ht : t < 64) (hlt : ∀ y, p y = true → y < t) (hJ : Ent J (cF k s p)) : Tr TP 234 [.agg ⟨cC k s p⟩, .int .i64 t] (Ctx J H) (fun _ : Unit => .int .i64 (fl p 64).length) (fun _ => True) (fun _ => Ctx J H) := by
  have hft : fl p 64 = fl p t := fl_same (by omega) fun y h1 h2 => by
    cases h : p y with
    | false => rfl
    | true => have := hlt y h; omega
  obtain rfl | rfl := hk
  · have key : ∀ {J H}, Ent J (cF 1 s p) → Tr TP 279 [.agg ⟨cC 1 s p⟩, .int .i64 t] (Ctx J H) (fun _ : Unit => .int .i64 (fl p 64).length) (fun _ => True) (fun _ => Ctx J H) := by
      intro J H hJ
      by_cases h0 : t = 0
      · subst h0
        rw [hft]
        refine en0 Tryz.func279 rfl rfl rfl (go ?_)
        intro b
        exact rt () trivial rfl (fun _ h => h.rest)
      · refine en0 Tryz.func279 rfl rfl rfl (go ?_)
        intro b
        refine cg (cAFind (g := p) (t := t) ht hJ) fun _ _ => ?_
        rw [← hft]
        exact rt () trivial rfl (fun _ h => h.rest)
    refine en0 Tryz.func234 rfl rfl rfl (go ?_)
    intro b
    refine cg (cKind (k := 1) (s := s) (p := p) (by omega)) fun _ _ => ?_
    refine cg (key hJ) fun _ _ => ?_
    exact rt () trivial rfl (fun _ h => h.rest)
  · have key : ∀ {J H}, Ent J (cF 3 s p) → Tr TP 281 [.agg ⟨cC 3 s p⟩, .int .i64 t] (Ctx J H) (fun _ : Unit => .int .i64 (fl p 64).length) (fun _ => True) (fun _ => Ctx J H) := by
      intro J H hJ
      refine en0 Tryz.func281 rfl rfl rfl (go ?_)
      intro b
      refine cg (cRRank hlt (by omega) hJ hp) fun _ _ => ?_
      exact rt () trivial rfl (fun _ h => h.rest)
    refine en0 Tryz.func234 rfl rfl rfl (go ?_)
    intro b
    refine cg (cKind (k := 3) (s := s) (p := p) (by omega)) fun _ _ => ?_
    refine cg (key hJ) fun _ _ => ?_
    exact rt () trivial rfl (fun _ h => h.rest)
/-- A set's containers. -/
theorem cLst0 (hJ : Ent J (sF x p true)) : Tr TP 233 [pb x.b] (Ctx J H) (fun _ : Unit => .slice none 0 0) (fun _ => True) (fun _ => Ctx J H) := by
  refine en0 Tryz.func233 rfl rfl rfl (addS2 (sF0 hJ) ?_)
  refine go ?_
  exact rt () trivial rfl (fun _ h => h.ent fun _ j => j.2.2.2)
theorem cLst1 (hJ : Ent J (sF x p false)) : Tr TP 233 [pb x.b] (Ctx J H) (fun _ : Unit => .slice x.lq.1 1 x.lq.2) (fun _ => True) (fun _ => Ctx J H) := by
  refine en0 Tryz.func233 rfl rfl rfl (addS4 (sF1 hJ) ?_)
  refine go ?_
  exact rt () trivial rfl (fun _ h => h.ent fun _ j => j.2.2.2.2.2)
theorem cSLen (hp : P60 p) (hJ : Ent J (sF x p e)) : Tr TP 177 [pb x.b] (Ctx J H) (fun _ : Unit => .int .i64 (fl p 64).length) (fun _ => True) (fun _ => Ctx J H) := by
  have hl := fl_len (g := p) (n := 64)
  cases e with
  | true =>
    refine en0 Tryz.func177 rfl rfl rfl (pur (fun w j => (hJ w j).out.2.1) fun hpe => go ?_)
    refine cg (cLst0 hJ) fun _ _ => ?_
    refine lp (X := Unit) (fun _ => True) (fun _ => [(3, .int .i64 0), (7, .slice none 0 0), (8, .int .i64 0), (9, .int .i64 0)]) (fun _ => Ctx J H) (fun _ => 0) () trivial rfl (fun _ h => h) fun _ _ => ?_
    refine go ?_
    rw [hpe, fl0]
    exact rt () trivial rfl (fun _ h => h)
  | false =>
    refine en0 Tryz.func177 rfl rfl rfl (addS4 (sF1 hJ) ?_)
    refine go ?_
    refine cg (cLst1 (fun w j => hJ w j.2.2.2.2.2)) fun _ _ => ?_
    refine lp (X := Nat) (fun k => k = 0 ∨ k = 1) (fun k => [(3, .int .i64 (if k = 0 then 0 else (fl p 64).length : Nat)), (7, .slice x.lq.1 1 x.lq.2), (8, .int .i64 1), (9, .int .i64 k)]) (fun _ => Ctx ((pt x.b 306 [.slice x.kq.1 1 x.kq.2, .slice x.lq.1 1 x.lq.2]).A :: Rs fh 1 x.kq.1 x.kq.2 [0] :: Rs (fCt (cn p) p) 4 x.lq.1 x.lq.2 [x.c] :: cF (cn p) x.c p :: sF x p false :: J) H) (fun k => 1 - k) 0 (.inl rfl) rfl (fun _ h => h) fun k hk => ?_
    rcases hk with rfl | rfl
    · rw [if_pos rfl]
      refine go ?_
      intro c
      refine cg (cCLen (cn_le p).1 hp je3) fun _ _ => ?_
      exact en 1 ⟨.inr rfl, by omega⟩ (by simp) (fun _ h => h.drp 0)
    · rw [if_neg (by omega)]
      refine go ?_
      exact rt () trivial rfl (fun _ h => h.ent fun _ j => j.2.2.2.2.2)
theorem cSRank {t : Nat} (hp : P60 p) (ht : t < 64) (hlt : ∀ y, p y = true → y < t) (hJ : Ent J (sF x p e)) : Tr TP 178 [pb x.b, .int .u64 t] (Ctx J H) (fun _ : Unit => .int .i64 (fl p 64).length) (fun _ => True) (fun _ => Ctx J H) := by
  have hl := fl_len (g := p) (n := 64)
  cases e with
  | true =>
    refine en0 Tryz.func178 rfl rfl rfl (pur (fun w j => (hJ w j).out.2.1) fun hpe => go ?_)
    refine cg (cLst0 hJ) fun _ _ => ?_
    refine lp (X := Unit) (fun _ => True) (fun _ => [(5, .int .i64 0), (14, .slice none 0 0), (15, .int .i64 0), (16, .int .i64 0)]) (fun _ => Ctx J H) (fun _ => 0) () trivial rfl (fun _ h => h) fun _ _ => ?_
    refine go ?_
    rw [hpe, fl0]
    exact rt () trivial rfl (fun _ h => h)
  | false =>
    refine en0 Tryz.func178 rfl rfl rfl (addS4 (sF1 hJ) ?_)
    refine go ?_
    refine cg (cLst1 (fun w j => hJ w j.2.2.2.2.2)) fun _ _ => ?_
    refine lp (X := Nat) (fun k => k = 0 ∨ k = 1) (fun k => [(0, pb x.b), (1, .int .u64 t), (5, .int .i64 (if k = 0 then 0 else (fl p 64).length : Nat)), (14, .slice x.lq.1 1 x.lq.2), (15, .int .i64 1), (16, .int .i64 k)]) (fun _ => Ctx ((pt x.b 306 [.slice x.kq.1 1 x.kq.2, .slice x.lq.1 1 x.lq.2]).A :: Rs fh 1 x.kq.1 x.kq.2 [0] :: Rs (fCt (cn p) p) 4 x.lq.1 x.lq.2 [x.c] :: cF (cn p) x.c p :: sF x p false :: J) H) (fun k => 1 - k) 0 (.inl rfl) rfl (fun _ h => h) fun k hk => ?_
    rcases hk with rfl | rfl
    · rw [if_pos rfl]
      refine go ?_
      intro c
      have e0 : t / 2 ^ 16 = 0 := Nat.div_eq_of_lt (by omega)
      have e1 : t &&& 65535 = t := by
        have := Nat.and_two_pow_sub_one_eq_mod t 16
        rw [Nat.mod_eq_of_lt (by omega)] at this; exact this
      rw [dw 16 (by omega), e0]
      refine ⟨fun h => absurd h (by decide), fun _ => ?_⟩
      refine go ?_
      rw [dw 16 (by omega), e0]
      refine ⟨fun _ => ?_, fun h => absurd rfl h⟩
      refine go ?_
      rw [aw (a := t) 65535 (by omega) (by omega), e1, IntWalk.i64_in (t : Int) (by omega)]
      rotate_left
      · rfl
      refine cg (cCRank (cn_le p).2 hp ht hlt je3) fun _ _ => ?_
      exact en 1 ⟨.inr rfl, by omega⟩ (by simp) (fun _ h => h.drp 0)
    · rw [if_neg (by omega)]
      refine go ?_
      exact rt () trivial rfl (fun _ h => h.ent fun _ j => j.2.2.2.2.2)
theorem cSAt (hJ : Ent J (sF x p false)) : Tr TP 189 [pb x.b, .int .i64 (0 : Nat)] (Ctx J H) (fun _ : Unit => .tuple #[.agg ⟨cC (cn p) x.c p⟩, .bool true]) (fun _ => True) (fun _ => Ctx J H) := by
  refine en0 Tryz.func189 rfl rfl rfl (addS4 (sF1 hJ) ?_)
  refine go ?_
  intro c
  refine cg (cLst1 (fun w j => hJ w j.2.2.2.2.2)) fun _ _ => ?_
  exact rv () trivial (fun _ h => (h.drp 0).ent fun _ j => j.2.2.2.2.2)
set_option maxHeartbeats 4000000 in
theorem cPush {b : Nat} (hne : em p = false) (hp : P60 p) (hT : Ent J TabT) (hJ : Ent J (Rs fh 1 ad cap (fl p 64)) := by exact jA) :
    Tr TP 215 [pb b, .int .u16 (0 : Nat), .slice ad (fl p 64).length cap] (Ctx J (pt b 306 [.slice none 0 0, .slice none 0 0] :: H)) (fun _ : SetD => .tuple #[]) (fun x => x.b = b) (fun x => Ctx (sF x p false :: J) H) := by
  refine en0 Tryz.func215 rfl rfl rfl (go ?_)
  refine ca (cOfA hJ) fun r _ => ?_
  refine nwS fh 1 152 none (nwS (fCt (cn p) p) 4 232 none ?_)
  refine go ?_
  intro c b2 q1
  refine ca (cCan (k := 1) (s := r) (p := p) ⟨by omega, by omega⟩ hp (fun w j => hT w j.2) je0) fun r2 _ => ?_
  refine And.intro af (dA rfl ?_)
  refine go ?_
  intro b3 q2
  exact rtE ⟨b, q1, q2, r2⟩ rfl rfl (fun w h => (h.drp 0).fzS.fzS.fz.ent fun w j => ⟨⟨j.1, j.2.1, j.2.2.1, j.2.2.2.1, trivial⟩, j.2.2.2.2.2⟩)
set_option maxHeartbeats 4000000 in
theorem cJoin0 (hJ : Ent J (Rs fh 1 ad cap [])) : Tr TP 232 [.slice ad 0 cap, .slice none 0 0] (Ctx J H) (fun x : SetD => .tuple #[pb x.b, .int .i64 0]) (fun _ => True) (fun x => Ctx (sF x ff true :: J) H) := by
  refine en0 Tryz.func232 rfl rfl rfl (go ?_)
  refine cg cNewS fun b _ => ?_
  refine lp (X := Unit) (fun _ => True) (fun _ => [(6, pb b), (15, .slice none 0 0), (16, .int .i64 0), (17, .int .i64 0)]) (fun _ => Ctx J (pt b 306 [.slice none 0 0, .slice none 0 0] :: H)) (fun _ => 0) () trivial rfl (fun _ h => h) fun _ _ => ?_
  refine go ?_
  exact rt ⟨b, (none, 0), (none, 0), (none, 0)⟩ trivial rfl (fun w h => h.fz.ent fun w j => ⟨⟨j.1, rfl, trivial⟩, j.2⟩)
end
end
end Go.Proofs.YtimemehaccgmmaaGreatDoor
namespace Go.Proofs.YtimemehaccgmmaaGreatDoor
open Go.RowKit
set_option maxRecDepth 100000
set_option linter.unusedVariables false
set_option linter.unusedSimpArgs false
noncomputable section
section
variable {J : List (World → Prop)} {H : List RC} {p q g : Nat → Bool} {x y : SetD} {e : Bool} {k : Nat} {s : Q2} {ad : Option Addr} {cap : Nat}
set_option maxHeartbeats 8000000 in
theorem cJoin1 {k : Nat} {lq c : Q2} (hk : k = 1 ∨ k = 3) (hne : em p = false) (hp : P60 p) (hT : Ent J TabT) (hJ : Ent J (Rs fh 1 ad cap [0])) (hJ2 : Ent J (Rs (fCt k p) 4 lq.1 lq.2 [c])) (hJ3 : Ent J (cF k c p)) :
    Tr TP 232 [.slice ad 1 cap, .slice lq.1 1 lq.2] (Ctx J H) (fun x : SetD => .tuple #[pb x.b, .int .i64 0]) (fun _ => True) (fun x => Ctx (sF x p false :: J) H) := by
  have h0 : 0 < (fl p 64).length := by
    unfold em at hne
    cases h : fl p 64 with
    | nil => rw [h] at hne; cases hne
    | cons a l => simp
  refine en0 Tryz.func232 rfl rfl rfl (addJ hJ2 (addJ (fun w j => hJ w j.2) (go ?_)))
  refine cg cNewS fun b _ => ?_
  refine lp (X := Nat × SetD) (fun x => x.1 = 0 ∨ x.1 = 1 ∧ x.2.b = b) (fun (d, z) => [(0, .slice ad 1 cap), (1, .slice lq.1 1 lq.2), (6, pb b), (15, .slice lq.1 1 lq.2), (16, .int .i64 1), (17, .int .i64 d)])
    (fun (d, z) => match d with
      | 0 => Ctx (Rs fh 1 ad cap [0] :: Rs (fCt k p) 4 lq.1 lq.2 [c] :: J) (pt b 306 [.slice none 0 0, .slice none 0 0] :: H)
      | _ => Ctx (sF z p false :: J) H) (fun x => 1 - x.1) (0, ⟨b, c, c, c⟩) (.inl rfl) rfl (fun _ h => h) fun ⟨d, z⟩ hz => ?_
  dsimp only at hz
  rcases hz with rfl | ⟨rfl, rfl⟩
  rotate_left
  · refine go ?_
    exact rt z trivial rfl (fun _ h => h)
  · refine nwS fh 1 152 none (nwS (fCt (cn p) p) 4 232 none (go ?_))
    intro a
    refine ca (cCLen (by omega) hp (fun w j => hJ3 w j.2.2)) fun _ _ => ?_
    refine And.intro af (dA rfl ?_)
    rw [show decide (((fl p 64).length : Int) = 0) = false from decide_eq_false (by omega)]
    refine go ?_
    intro b2 q1
    refine ca (cCan ⟨by omega, by omega⟩ hp (fun w j => hT w j.2.2) (fun w j => hJ3 w j.2.2)) fun r2 _ => ?_
    refine And.intro af (dA rfl ?_)
    refine go ?_
    intro b3 q2
    refine en (1, ⟨b, q1, q2, r2⟩) ⟨.inr ⟨rfl, rfl⟩, by dsimp only; omega⟩ rfl (fun w h => ?_)
    exact ((h.drp 0).fzS.fzS.fz).ent fun w j => ⟨⟨j.1, j.2.1, j.2.2.1, j.2.2.2.1, trivial⟩, j.2.2.2.2.2.2⟩
end
end
end Go.Proofs.YtimemehaccgmmaaGreatDoor
