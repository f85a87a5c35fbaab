/-
  StarDoes: the star-tree of any columns tells the document's records, nodes and bytes, or is refused.
-/
import Derived.Test.YthmaobmgogmaoaaStcN
import Derived.Test.YthmaobmgogmaoaaStcO
import Derived.Test.YthmaobmgogmaoaaStbY
namespace Go.Proofs.Ythmaobmgogmaoaa
open Go.RowKit Go.Shelf
set_option linter.unusedSimpArgs false
set_option linter.unusedVariables false
set_option maxRecDepth 100000

theorem wanted_undef {ops : Array Oper} {o : Oper} {tmps : Array Value} {j t : Nat} {b : Bool} (h : o.guard = some (j, b)) (hd : (ops[j]?).bind (·.dst) = some t) (ht : tmps[t]? = some undef) : Region.wanted o (yielded ops tmps) = false := by
  simp [Region.wanted, h, yielded, hd, ht, undef]
/-- A record that was told, and is written over. -/
structure MutI (w7 : World) (B px : Nat) (row : Array Value) (ia : Option Addr) (ic kn : Nat) (sa : Option Addr) (sc sn : Nat) (w : World) : Prop where
  row : w.heap[px]? = some (.cells row 34)
  oi : ∃ l, l.length = kn ∧ Own w B 3 .i64 ia ic l
  os : ∃ l, l.length = sn ∧ Own w B 2 .i64 sa sc l
  kp : Kp [] w7 w
  base : w7.heap.size ≤ B
theorem MutI.keep0 {w7 : World} {B px : Nat} {row : Array Value} {ia : Option Addr} {ic kn : Nat} {sa : Option Addr} {sc sn : Nat} {w w' : World} (h : MutI w7 B px row ia ic kn sa sc sn w) (k : Kp [] w w') : MutI w7 B px row ia ic kn sa sc sn w' :=
  ⟨k.get h.row (by simp), let ⟨l, h1, h2⟩ := h.oi; ⟨l, h1, h2.keep0 k⟩, let ⟨l, h1, h2⟩ := h.os; ⟨l, h1, h2.keep0 k⟩, h.kp.tr k, h.base⟩
theorem MutI.setI {w7 : World} {B px : Nat} {row : Array Value} {ia : Option Addr} {ic kn : Nat} {sa : Option Addr} {sc sn : Nat} {w : World} (h : MutI w7 B px row ia ic kn sa sc sn w) {s : Nat} (hs : s < kn) :
    ∃ g v0, ia = some ⟨g, 0, none⟩ ∧ w.cell? ⟨g, s, none⟩ = some (.int .i64 v0) ∧ w.frozen? ⟨g, s, none⟩ = false ∧ ∀ v, MutI w7 B px row ia ic kn sa sc sn (w.setCell ⟨g, s, none⟩ (.int .i64 v)) := by
  obtain ⟨l, hl, ho⟩ := h.oi
  obtain ⟨g, h1, h2, h3, h4, h5⟩ := ho.at' (i := s) (by omega)
  refine ⟨g, _, h1, h2, h3, fun v => ?_⟩
  have kz : Kp [g] w (w.setCell ⟨g, s, none⟩ (.int .i64 v)) := (Kp.refl [g] w).setCell _ _ (by simp)
  subst h1
  obtain ⟨l2, hl2, ho2⟩ := h.os
  have hg : ∃ cs fr, w.heap[g]? = some (.cells cs 3 fr) := by
    rcases ho with ⟨q, -⟩ | ⟨q, cur, q1, q2, q3, -⟩
    · simp [ob, q] at h5
    · cases q1; exact ⟨cur, _, q3⟩
  obtain ⟨cs, fr, hg⟩ := hg
  refine ⟨kz.get h.row (fun hb => by simp at hb; subst hb; exact ownI_ne ho h.row (by decide) h5), ⟨l.set s v, by rw [List.length_set, hl], ho.set s v⟩, ⟨l2, hl2, ho2.keep kz (fun b hb hb2 => by simp at hb2; subst hb2; exact ownI_ne ho2 hg (by decide) hb)⟩, h.kp.trans kz (by simp) (fun b hb => by simp at hb; subst hb; exact .inr (Nat.le_trans h.base h4)), h.base⟩
theorem MutI.setS {w7 : World} {B px : Nat} {row : Array Value} {ia : Option Addr} {ic kn : Nat} {sa : Option Addr} {sc sn : Nat} {w : World} (h : MutI w7 B px row ia ic kn sa sc sn w) {s : Nat} (hs : s < sn) :
    ∃ g v0, sa = some ⟨g, 0, none⟩ ∧ w.cell? ⟨g, s, none⟩ = some (.int .i64 v0) ∧ w.frozen? ⟨g, s, none⟩ = false ∧ ∀ v, MutI w7 B px row ia ic kn sa sc sn (w.setCell ⟨g, s, none⟩ (.int .i64 v)) := by
  obtain ⟨l, hl, ho⟩ := h.os
  obtain ⟨g, h1, h2, h3, h4, h5⟩ := ho.at' (i := s) (by omega)
  refine ⟨g, _, h1, h2, h3, fun v => ?_⟩
  have kz : Kp [g] w (w.setCell ⟨g, s, none⟩ (.int .i64 v)) := (Kp.refl [g] w).setCell _ _ (by simp)
  subst h1
  obtain ⟨l2, hl2, ho2⟩ := h.oi
  have hg : ∃ cs fr, w.heap[g]? = some (.cells cs 2 fr) := by
    rcases ho with ⟨q, -⟩ | ⟨q, cur, q1, q2, q3, -⟩
    · simp [ob, q] at h5
    · cases q1; exact ⟨cur, _, q3⟩
  obtain ⟨cs, fr, hg⟩ := hg
  refine ⟨kz.get h.row (fun hb => by simp at hb; subst hb; exact ownI_ne ho h.row (by decide) h5), ⟨l2, hl2, ho2.keep kz (fun b hb hb2 => by simp at hb2; subst hb2; exact ownI_ne ho2 hg (by decide) hb)⟩, ⟨l.set s v, by rw [List.length_set, hl], ho.set s v⟩, h.kp.trans kz (by simp) (fun b hb => by simp at hb; subst hb; exact .inr (Nat.le_trans h.base h4)), h.base⟩
/-- Kids that are written over. -/
def kdI (x : Int × Int) : List Value := [.int .i64 x.1, .int .i64 x.2]
theorem kdIlies : Lies kdI 2 := ⟨fun _ => rfl, fun x v hv => by simp [kdI] at hv; rcases hv with rfl | rfl <;> rfl, by omega⟩
theorem kdI_of {w : World} {B : Nat} {e : TypeId} {ad : Option Addr} {cap : Nat} {l : List (Int × Nat)} (h : OwnS kdcells 2 w B e ad cap l) : OwnS kdI 2 w B e ad cap (l.map fun x => (x.1, (x.2 : Int))) := by
  rcases h with ⟨h1, h2⟩ | ⟨g, cur, h1, h2, h3, h4, h5, h6, h7⟩
  · exact .inl ⟨h1, by rw [h2]; rfl⟩
  · refine .inr ⟨g, cur, h1, h2, h3, h4, by rw [List.length_map]; exact h5, h6, ?_⟩
    rw [List.length_map, h7, List.flatMap_map]; rfl
structure MutN (w7 : World) (B px : Nat) (row : Array Value) (ka : Option Addr) (kc kn : Nat) (w : World) : Prop where
  row : w.heap[px]? = some (.cells row 40)
  ok : ∃ l, l.length = kn ∧ OwnS kdI 2 w B 44 ka kc l
  kp : Kp [] w7 w
  base : w7.heap.size ≤ B
theorem MutN.keep0 {w7 : World} {B px : Nat} {row : Array Value} {ka : Option Addr} {kc kn : Nat} {w w' : World} (h : MutN w7 B px row ka kc kn w) (k : Kp [] w w') : MutN w7 B px row ka kc kn w' :=
  ⟨k.get h.row (by simp), let ⟨l, h1, h2⟩ := h.ok; ⟨l, h1, h2.keep0 k⟩, h.kp.tr k, h.base⟩
theorem MutN.set {w7 : World} {B px : Nat} {row : Array Value} {ka : Option Addr} {kc kn : Nat} {w : World} (h : MutN w7 B px row ka kc kn w) {s : Nat} (hs : s < kn) :
    ∃ g u, ka = some ⟨g, 0, none⟩ ∧ w.cell? ⟨g, s * 2 + 1, none⟩ = some u ∧ w.frozen? ⟨g, s * 2 + 1, none⟩ = false ∧ MutN w7 B px row ka kc kn (w.setCell ⟨g, s * 2 + 1, none⟩ (.int .i64 (-9))) := by
  obtain ⟨l, hl, ho⟩ := h.ok
  obtain ⟨g, h1, hgm, hgB, ⟨u, h2⟩, h3, hown, hkp⟩ := ho.put1 kdIlies (i := s) (by omega) (l[s].1, -9) 1 (.int .i64 (-9)) (by omega) (by rfl)
  refine ⟨g, u, h1, h2, h3, hkp.get h.row (fun hb => by simp at hb; subst hb; exact own_ne ho h.row (by decide) hgm), ⟨_, by rw [List.length_set, hl], hown⟩, h.kp.trans hkp (by simp) (fun b hb => by simp at hb; subst hb; exact .inr (Nat.le_trans h.base hgB)), h.base⟩
/-- What Record tells, in one form. -/
theorem rec_tell {R : List PR} {i : Int} {w w' : World} {e : Ending} (h : RecPost R i w e w') : ∃ (x : Ra) (ev : Int), e = .returned (.tuple #[raV x, .int .i64 ev]) ∧ RaOwn w' w.heap.size x ∧ Kp [] w w' ∧ ((ev = 7 ∧ (i < 0 ∨ (R.length : Int) ≤ i)) ∨ (ev = 0 ∧ ∃ n : Nat, i = (n : Int) ∧ R[n]? = some x.pr)) := by
  obtain ⟨kp, ⟨h1, h2⟩ | ⟨n, hn, x, h1, h2, h3, h4⟩⟩ := h
  · exact ⟨⟨[], none, 0, 0, [], none, 0, none, 0, none, 0⟩, 7, h2, ⟨Own.nil _ _ _ _, Own.nil _ _ _ _, Own.nil _ _ _ _, Own.nil _ _ _ _⟩, kp, .inl ⟨rfl, h1⟩⟩
  · exact ⟨x, 0, h2, h4, kp, .inr ⟨rfl, n, h1, by rw [h3, List.getElem?_eq_getElem hn]⟩⟩
theorem node_tell {N : List PN} {i : Int} {w w' : World} {e : Ending} (h : NodePost N i w e w') : ∃ (y : Nh) (ev : Int), e = .returned (.tuple #[nodeV y, .int .i64 ev]) ∧ y.kn = y.kids.length ∧ OwnS kdcells 2 w' w.heap.size 44 y.ka y.kc y.kids ∧ Kp [] w w' ∧ ((ev = 7 ∧ (i < 0 ∨ (N.length : Int) ≤ i)) ∨ (ev = 0 ∧ ∃ n : Nat, i = (n : Int) ∧ N[n]? = some (pn y))) := by
  obtain ⟨kp, ⟨h1, h2⟩ | ⟨n, hn, y, h1, h2, h3, h4, h5⟩⟩ := h
  · exact ⟨⟨0, 0, 0, none, 0, 0, []⟩, 7, h2, rfl, OwnS.nil _ _ _ _ _, kp, .inl ⟨rfl, h1⟩⟩
  · exact ⟨y, 0, h2, h4, h5, kp, .inr ⟨rfl, n, h1, by rw [h3, List.getElem?_eq_getElem hn]⟩⟩
theorem rtree_bytes {T k mt leaf B : Nat} {X : Nat → Prop} {ra : Option Addr} {rc : Nat} {RL : List Ra} {na : Option Addr} {nc : Nat} {NL : List Nh} {w : World} (h : RTree T k mt leaf B X ra rc RL na nc NL w) (hk8 : k ≤ 8) (hmt : mt ≤ 10) (hR : RL.length ≤ 100000) (hN : NL.length ≤ 100000000)
    (hnode : ∀ y ∈ NL, y.kids.length ≤ 81) : (∀ y ∈ NL, y.kids.length ≤ 100000000) ∧ ((RL.map Ra.pr).flatMap recB).length ≤ 420000000000 ∧ ((NL.map pn).flatMap nodeB).length ≤ 420000000000 := by
  refine ⟨fun y hy => by have := hnode y hy; omega, ?_, ?_⟩
  · have h1 := flat_bd recB 280 (RL.map Ra.pr) (fun a ha => by
      obtain ⟨x, hx, rfl⟩ := List.mem_map.1 ha
      obtain ⟨-, g2, g3⟩ := h.good x hx
      rw [recB_len]
      have e1 : (Ra.pr x).ids.length = k := g2
      have e2 : (Ra.pr x).ms.length = mt := g3
      omega)
    rw [List.length_map] at h1; omega
  · have h1 := flat_bd nodeB 661 (NL.map pn) (fun a ha => by
      obtain ⟨x, hx, rfl⟩ := List.mem_map.1 ha
      have h2 := hnode x hx
      rw [nodeB_len]
      show 13 + 8 * x.kids.length ≤ 661
      omega)
    rw [List.length_map] at h1; omega
end Go.Proofs.Ythmaobmgogmaoaa
